/- Hyperbolic functions and their inverses, of both texts. No condition. -/
import Derived.Test.YtoodbdjmbicaeaaGreatCv6
namespace Go.Proofs.YtoodbdjmbicaeaaGreat
open Go.RowKit
set_option maxRecDepth 20000
set_option maxHeartbeats 2000000
set_option linter.unusedVariables false
set_option linter.unusedSimpArgs false

def sinhW (a : Nat) : Nat := dD (dS (expW a) (expW (negV a))) 4611686018427387904
def coshW (a : Nat) : Nat := dD (dA (expW a) (expW (negV a))) 4611686018427387904
def tanhB (a : Nat) : Nat := dD (dS (expW (dM 4611686018427387904 a)) 4607182418800017408) (dA (expW (dM 4611686018427387904 a)) 4607182418800017408)
def tanhW (a : Nat) : Nat := if ltB (intW 22) a then 4607182418800017408 else if ltB a (intW (-22)) then intW (-1) else tanhB a
def asinhB (a : Nat) : Nat := sgnd (lnW (dA (absV a) (dQ (dA (dM (absV a) (absV a)) 4607182418800017408)))) a
def asinhW (a : Nat) : Nat := if nanW a then theNaN else if isInfW a then a else asinhB a
def acoshB (a : Nat) : Nat := lnW (dA a (dQ (dS (dM a a) 4607182418800017408)))
def acoshW (a : Nat) : Nat := if nanW a then theNaN else if ltB a 4607182418800017408 then theNaN else acoshB a
def atanhW (a : Nat) : Nat := if nanW a then theNaN else if ltB 4607182418800017408 (absV a) then theNaN else dM 4602678819172646912 (lnW (dD (dA 4607182418800017408 a) (dS 4607182418800017408 a)))
theorem ltB_nan {a b : Nat} (h : nanW a = true ∨ nanW b = true) : ltB a b = false := by
  rw [ltB_cmp, (cmp_nan h.symm).1]; rfl
theorem tanh_nan {a : Nat} (na : nanW a = true) : tanhW a = theNaN := by
  unfold tanhW tanhB
  rw [ltB_nan (.inr na), ltB_nan (.inl na), if_neg (by decide), if_neg (by decide)]
  have h1 : dM 4611686018427387904 a = theNaN := by unfold dM; rw [mul_nan (.inr na)]; rfl
  have h2 : expW theNaN = theNaN := by unfold expW; rw [if_pos isNaN_lt]
  have h3 : dS theNaN 4607182418800017408 = theNaN := by unfold dS; rw [sub_nan (by decide) (.inl isNaN_lt)]; rfl
  rw [h1, h2, h3]
  unfold dD
  rw [div_nan (.inl isNaN_lt)]
  rfl
/-- What Go asks: not below one. -/
theorem ge_one {a : Nat} (na : nanW a = false) : (FloatKind.f64.format.order a 4607182418800017408 == some .gt || FloatKind.f64.format.order a 4607182418800017408 == some .eq) = !ltB a 4607182418800017408 := by
  have h1 := nan_false na
  unfold ltB
  show (Ieee.double.order _ _ == some .gt || Ieee.double.order _ _ == some .eq) = !(Ieee.double.order _ _ == some .lt)
  rw [order_eq h1 (by decide)]
  cases compare (ival a) (ival 4607182418800017408) <;> rfl
theorem ge_nan {a : Nat} (na : nanW a = true) : (FloatKind.f64.format.order a 4607182418800017408 == some .gt || FloatKind.f64.format.order a 4607182418800017408 == some .eq) = false := by
  have : FloatKind.f64.format.order a 4607182418800017408 = none := order_nan (.inl (of_decide_eq_true na))
  rw [this]; rfl

theorem ksinh {a : Nat} (ha : a < 2 ^ 64)  (w : World) : Kb 26 #[wd a] w (wd (sinhW a)) := by
  have BL := Lib.hid (Below.refl w.heap.size w)
  go_enter Tryz.func26, Tryz.ntmps26
  go_wp2_with (first
    | (go_at_call 18; refine (kexp (by first | assumption | exact dA_lt _ _ | exact dS_lt _ _ | exact dM_lt _ _ | exact dD_lt _ _ | exact dQ_lt _ | exact absV_lt (by assumption) | exact negV_lt (by assumption) | exact intW_lt _ | exact expW_lt _ | exact lnW_lt (dA_lt _ _) | exact lnW_lt (dD_lt _ _) | decide) _).mono ?_; rintro e wk ⟨rfl, bk⟩; have BL := Lib.hid (BL.out.trans (bk.mono BL.out.size)); clear bk)
    | (go_at_call 86; refine (kneg (by first | assumption | exact dA_lt _ _ | exact dS_lt _ _ | exact dM_lt _ _ | exact dD_lt _ _ | exact dQ_lt _ | exact absV_lt (by assumption) | exact negV_lt (by assumption) | exact intW_lt _ | exact expW_lt _ | exact lnW_lt (dA_lt _ _) | exact lnW_lt (dD_lt _ _) | decide) _).mono ?_; rintro e wz ⟨rfl, hw1⟩; have hw2 := hw1.symm; clear hw1; subst hw2)
    | (go_at_call 46; refine (kS _ _ _).mono ?_; rintro e wk ⟨rfl, nk, hw⟩; have BL := Lib.hid (show Below w.heap.size w wk by rw [hw]; first | exact BL.out.trans (drew_below _ _ _) | exact (BL.out.alloc BL.out.size _).trans (drew_below _ _ _)); clear hw)
    | (go_at_call 40; refine (kD _ _ _).mono ?_; rintro e wk ⟨rfl, nk, hw⟩; have BL := Lib.hid (show Below w.heap.size w wk by rw [hw]; first | exact BL.out.trans (drew_below _ _ _) | exact (BL.out.alloc BL.out.size _).trans (drew_below _ _ _)); clear hw))
  go_ret
  exact ⟨rfl, BL.out⟩

theorem krsinh {a : Nat} (ha : a < 2 ^ 64)  (w : World) : Kb 27 #[wd a] w (wd (sinhW a)) := by
  have BL := Lib.hid (Below.refl w.heap.size w)
  go_enter Tryz.func27, Tryz.ntmps27
  go_wp2_with (first
    | (go_at_call 19; refine (krexp (by first | assumption | exact dA_lt _ _ | exact dS_lt _ _ | exact dM_lt _ _ | exact dD_lt _ _ | exact dQ_lt _ | exact absV_lt (by assumption) | exact negV_lt (by assumption) | exact intW_lt _ | exact expW_lt _ | exact lnW_lt (dA_lt _ _) | exact lnW_lt (dD_lt _ _) | decide) _).mono ?_; rintro e wk ⟨rfl, bk⟩; have BL := Lib.hid (BL.out.trans (bk.mono BL.out.size)); clear bk)
    | (go_at_call 87; refine (krneg (by first | assumption | exact dA_lt _ _ | exact dS_lt _ _ | exact dM_lt _ _ | exact dD_lt _ _ | exact dQ_lt _ | exact absV_lt (by assumption) | exact negV_lt (by assumption) | exact intW_lt _ | exact expW_lt _ | exact lnW_lt (dA_lt _ _) | exact lnW_lt (dD_lt _ _) | decide) _).mono ?_; rintro e wz ⟨rfl, hw1⟩; have hw2 := hw1.symm; clear hw1; subst hw2)
    | (go_at_call 52; refine (rS (by first | assumption | exact dA_lt _ _ | exact dS_lt _ _ | exact dM_lt _ _ | exact dD_lt _ _ | exact dQ_lt _ | exact absV_lt (by assumption) | exact negV_lt (by assumption) | exact intW_lt _ | exact expW_lt _ | exact lnW_lt (dA_lt _ _) | exact lnW_lt (dD_lt _ _) | decide) (by first | assumption | exact dA_lt _ _ | exact dS_lt _ _ | exact dM_lt _ _ | exact dD_lt _ _ | exact dQ_lt _ | exact absV_lt (by assumption) | exact negV_lt (by assumption) | exact intW_lt _ | exact expW_lt _ | exact lnW_lt (dA_lt _ _) | exact lnW_lt (dD_lt _ _) | decide) _).mono ?_; rintro e wk ⟨rfl, bk⟩; have BL := Lib.hid (BL.out.trans (bk.mono BL.out.size)); clear bk)
    | (go_at_call 41; refine (rD (by first | assumption | exact dA_lt _ _ | exact dS_lt _ _ | exact dM_lt _ _ | exact dD_lt _ _ | exact dQ_lt _ | exact absV_lt (by assumption) | exact negV_lt (by assumption) | exact intW_lt _ | exact expW_lt _ | exact lnW_lt (dA_lt _ _) | exact lnW_lt (dD_lt _ _) | decide) (by first | assumption | exact dA_lt _ _ | exact dS_lt _ _ | exact dM_lt _ _ | exact dD_lt _ _ | exact dQ_lt _ | exact absV_lt (by assumption) | exact negV_lt (by assumption) | exact intW_lt _ | exact expW_lt _ | exact lnW_lt (dA_lt _ _) | exact lnW_lt (dD_lt _ _) | decide) _).mono ?_; rintro e wk ⟨rfl, bk⟩; have BL := Lib.hid (BL.out.trans (bk.mono BL.out.size)); clear bk))
  go_ret
  exact ⟨rfl, BL.out⟩

theorem kcosh {a : Nat} (ha : a < 2 ^ 64)  (w : World) : Kb 28 #[wd a] w (wd (coshW a)) := by
  have BL := Lib.hid (Below.refl w.heap.size w)
  go_enter Tryz.func28, Tryz.ntmps28
  go_wp2_with (first
    | (go_at_call 18; refine (kexp (by first | assumption | exact dA_lt _ _ | exact dS_lt _ _ | exact dM_lt _ _ | exact dD_lt _ _ | exact dQ_lt _ | exact absV_lt (by assumption) | exact negV_lt (by assumption) | exact intW_lt _ | exact expW_lt _ | exact lnW_lt (dA_lt _ _) | exact lnW_lt (dD_lt _ _) | decide) _).mono ?_; rintro e wk ⟨rfl, bk⟩; have BL := Lib.hid (BL.out.trans (bk.mono BL.out.size)); clear bk)
    | (go_at_call 86; refine (kneg (by first | assumption | exact dA_lt _ _ | exact dS_lt _ _ | exact dM_lt _ _ | exact dD_lt _ _ | exact dQ_lt _ | exact absV_lt (by assumption) | exact negV_lt (by assumption) | exact intW_lt _ | exact expW_lt _ | exact lnW_lt (dA_lt _ _) | exact lnW_lt (dD_lt _ _) | decide) _).mono ?_; rintro e wz ⟨rfl, hw1⟩; have hw2 := hw1.symm; clear hw1; subst hw2)
    | (go_at_call 61; refine (kA _ _ _).mono ?_; rintro e wk ⟨rfl, nk, hw⟩; have BL := Lib.hid (show Below w.heap.size w wk by rw [hw]; first | exact BL.out.trans (drew_below _ _ _) | exact (BL.out.alloc BL.out.size _).trans (drew_below _ _ _)); clear hw)
    | (go_at_call 40; refine (kD _ _ _).mono ?_; rintro e wk ⟨rfl, nk, hw⟩; have BL := Lib.hid (show Below w.heap.size w wk by rw [hw]; first | exact BL.out.trans (drew_below _ _ _) | exact (BL.out.alloc BL.out.size _).trans (drew_below _ _ _)); clear hw))
  go_ret
  exact ⟨rfl, BL.out⟩

theorem krcosh {a : Nat} (ha : a < 2 ^ 64)  (w : World) : Kb 29 #[wd a] w (wd (coshW a)) := by
  have BL := Lib.hid (Below.refl w.heap.size w)
  go_enter Tryz.func29, Tryz.ntmps29
  go_wp2_with (first
    | (go_at_call 19; refine (krexp (by first | assumption | exact dA_lt _ _ | exact dS_lt _ _ | exact dM_lt _ _ | exact dD_lt _ _ | exact dQ_lt _ | exact absV_lt (by assumption) | exact negV_lt (by assumption) | exact intW_lt _ | exact expW_lt _ | exact lnW_lt (dA_lt _ _) | exact lnW_lt (dD_lt _ _) | decide) _).mono ?_; rintro e wk ⟨rfl, bk⟩; have BL := Lib.hid (BL.out.trans (bk.mono BL.out.size)); clear bk)
    | (go_at_call 87; refine (krneg (by first | assumption | exact dA_lt _ _ | exact dS_lt _ _ | exact dM_lt _ _ | exact dD_lt _ _ | exact dQ_lt _ | exact absV_lt (by assumption) | exact negV_lt (by assumption) | exact intW_lt _ | exact expW_lt _ | exact lnW_lt (dA_lt _ _) | exact lnW_lt (dD_lt _ _) | decide) _).mono ?_; rintro e wz ⟨rfl, hw1⟩; have hw2 := hw1.symm; clear hw1; subst hw2)
    | (go_at_call 69; refine (rA (by first | assumption | exact dA_lt _ _ | exact dS_lt _ _ | exact dM_lt _ _ | exact dD_lt _ _ | exact dQ_lt _ | exact absV_lt (by assumption) | exact negV_lt (by assumption) | exact intW_lt _ | exact expW_lt _ | exact lnW_lt (dA_lt _ _) | exact lnW_lt (dD_lt _ _) | decide) (by first | assumption | exact dA_lt _ _ | exact dS_lt _ _ | exact dM_lt _ _ | exact dD_lt _ _ | exact dQ_lt _ | exact absV_lt (by assumption) | exact negV_lt (by assumption) | exact intW_lt _ | exact expW_lt _ | exact lnW_lt (dA_lt _ _) | exact lnW_lt (dD_lt _ _) | decide) _).mono ?_; rintro e wk ⟨rfl, bk⟩; have BL := Lib.hid (BL.out.trans (bk.mono BL.out.size)); clear bk)
    | (go_at_call 41; refine (rD (by first | assumption | exact dA_lt _ _ | exact dS_lt _ _ | exact dM_lt _ _ | exact dD_lt _ _ | exact dQ_lt _ | exact absV_lt (by assumption) | exact negV_lt (by assumption) | exact intW_lt _ | exact expW_lt _ | exact lnW_lt (dA_lt _ _) | exact lnW_lt (dD_lt _ _) | decide) (by first | assumption | exact dA_lt _ _ | exact dS_lt _ _ | exact dM_lt _ _ | exact dD_lt _ _ | exact dQ_lt _ | exact absV_lt (by assumption) | exact negV_lt (by assumption) | exact intW_lt _ | exact expW_lt _ | exact lnW_lt (dA_lt _ _) | exact lnW_lt (dD_lt _ _) | decide) _).mono ?_; rintro e wk ⟨rfl, bk⟩; have BL := Lib.hid (BL.out.trans (bk.mono BL.out.size)); clear bk))
  go_ret
  exact ⟨rfl, BL.out⟩

theorem ktanh1 {a : Nat} (ha : a < 2 ^ 64) (h1 : ltB (intW 22) a = true) (w : World) : Kb 30 #[wd a] w (wd (4607182418800017408)) := by
  have BL := Lib.hid (Below.refl w.heap.size w)
  go_enter Tryz.func30, Tryz.ntmps30
  go_wp2_with (first
    | (go_at_call 59; refine (kintW _ _).mono ?_; rintro e wz ⟨rfl, hw1⟩; have hw2 := hw1.symm; clear hw1; subst hw2)
    | (go_at_call 43; refine (knless _ _ _).mono ?_; rintro e wz ⟨rfl, hw1⟩; have hw2 := hw1.symm; clear hw1; subst hw2)
    | (go_at_call 47; refine (kM _ _ _).mono ?_; rintro e wk ⟨rfl, nk, hw⟩; have BL := Lib.hid (show Below w.heap.size w wk by rw [hw]; first | exact BL.out.trans (drew_below _ _ _) | exact (BL.out.alloc BL.out.size _).trans (drew_below _ _ _)); clear hw)
    | (go_at_call 46; refine (kS _ _ _).mono ?_; rintro e wk ⟨rfl, nk, hw⟩; have BL := Lib.hid (show Below w.heap.size w wk by rw [hw]; first | exact BL.out.trans (drew_below _ _ _) | exact (BL.out.alloc BL.out.size _).trans (drew_below _ _ _)); clear hw)
    | (go_at_call 61; refine (kA _ _ _).mono ?_; rintro e wk ⟨rfl, nk, hw⟩; have BL := Lib.hid (show Below w.heap.size w wk by rw [hw]; first | exact BL.out.trans (drew_below _ _ _) | exact (BL.out.alloc BL.out.size _).trans (drew_below _ _ _)); clear hw)
    | (go_at_call 40; refine (kD _ _ _).mono ?_; rintro e wk ⟨rfl, nk, hw⟩; have BL := Lib.hid (show Below w.heap.size w wk by rw [hw]; first | exact BL.out.trans (drew_below _ _ _) | exact (BL.out.alloc BL.out.size _).trans (drew_below _ _ _)); clear hw)
    | (go_at_call 18; refine (kexp (by first | assumption | exact dA_lt _ _ | exact dS_lt _ _ | exact dM_lt _ _ | exact dD_lt _ _ | exact dQ_lt _ | exact absV_lt (by assumption) | exact negV_lt (by assumption) | exact intW_lt _ | exact expW_lt _ | exact lnW_lt (dA_lt _ _) | exact lnW_lt (dD_lt _ _) | decide) _).mono ?_; rintro e wk ⟨rfl, bk⟩; have BL := Lib.hid (BL.out.trans (bk.mono BL.out.size)); clear bk))
  go_ret
  exact ⟨rfl, BL.out⟩

theorem krtanh1 {a : Nat} (ha : a < 2 ^ 64) (na : nanW a = false) (h1 : ltB (intW 22) a = true) (w : World) : Kb 31 #[wd a] w (wd (4607182418800017408)) := by
  have BL := Lib.hid (Below.refl w.heap.size w)
  go_enter Tryz.func31, Tryz.ntmps31
  go_wp2_with (first
    | (go_at_call 48; refine (krNaN (by first | assumption | exact dA_lt _ _ | exact dS_lt _ _ | exact dM_lt _ _ | exact dD_lt _ _ | exact dQ_lt _ | exact absV_lt (by assumption) | exact negV_lt (by assumption) | exact intW_lt _ | exact expW_lt _ | exact lnW_lt (dA_lt _ _) | exact lnW_lt (dD_lt _ _) | decide) _).mono ?_; rintro e wz ⟨rfl, hw1⟩; have hw2 := hw1.symm; clear hw1; subst hw2)
    | (go_at_call 70; refine (krInt (by omega) (by omega) _).mono ?_; rintro e wk ⟨rfl, bk⟩; have BL := Lib.hid (BL.out.trans (bk.mono BL.out.size)); clear bk)
    | (go_at_call 49; refine (krabove (by first | assumption | exact dA_lt _ _ | exact dS_lt _ _ | exact dM_lt _ _ | exact dD_lt _ _ | exact dQ_lt _ | exact absV_lt (by assumption) | exact negV_lt (by assumption) | exact intW_lt _ | exact expW_lt _ | exact lnW_lt (dA_lt _ _) | exact lnW_lt (dD_lt _ _) | decide) (by first | assumption | exact dA_lt _ _ | exact dS_lt _ _ | exact dM_lt _ _ | exact dD_lt _ _ | exact dQ_lt _ | exact absV_lt (by assumption) | exact negV_lt (by assumption) | exact intW_lt _ | exact expW_lt _ | exact lnW_lt (dA_lt _ _) | exact lnW_lt (dD_lt _ _) | decide) _).mono ?_; rintro e wk ⟨rfl, bk⟩; have BL := Lib.hid (BL.out.trans (bk.mono BL.out.size)); clear bk)
    | (go_at_call 67; refine (krbelow (by first | assumption | exact dA_lt _ _ | exact dS_lt _ _ | exact dM_lt _ _ | exact dD_lt _ _ | exact dQ_lt _ | exact absV_lt (by assumption) | exact negV_lt (by assumption) | exact intW_lt _ | exact expW_lt _ | exact lnW_lt (dA_lt _ _) | exact lnW_lt (dD_lt _ _) | decide) (by first | assumption | exact dA_lt _ _ | exact dS_lt _ _ | exact dM_lt _ _ | exact dD_lt _ _ | exact dQ_lt _ | exact absV_lt (by assumption) | exact negV_lt (by assumption) | exact intW_lt _ | exact expW_lt _ | exact lnW_lt (dA_lt _ _) | exact lnW_lt (dD_lt _ _) | decide) _).mono ?_; rintro e wk ⟨rfl, bk⟩; have BL := Lib.hid (BL.out.trans (bk.mono BL.out.size)); clear bk)
    | (go_at_call 53; refine (rM (by first | assumption | exact dA_lt _ _ | exact dS_lt _ _ | exact dM_lt _ _ | exact dD_lt _ _ | exact dQ_lt _ | exact absV_lt (by assumption) | exact negV_lt (by assumption) | exact intW_lt _ | exact expW_lt _ | exact lnW_lt (dA_lt _ _) | exact lnW_lt (dD_lt _ _) | decide) (by first | assumption | exact dA_lt _ _ | exact dS_lt _ _ | exact dM_lt _ _ | exact dD_lt _ _ | exact dQ_lt _ | exact absV_lt (by assumption) | exact negV_lt (by assumption) | exact intW_lt _ | exact expW_lt _ | exact lnW_lt (dA_lt _ _) | exact lnW_lt (dD_lt _ _) | decide) _).mono ?_; rintro e wk ⟨rfl, bk⟩; have BL := Lib.hid (BL.out.trans (bk.mono BL.out.size)); clear bk)
    | (go_at_call 52; refine (rS (by first | assumption | exact dA_lt _ _ | exact dS_lt _ _ | exact dM_lt _ _ | exact dD_lt _ _ | exact dQ_lt _ | exact absV_lt (by assumption) | exact negV_lt (by assumption) | exact intW_lt _ | exact expW_lt _ | exact lnW_lt (dA_lt _ _) | exact lnW_lt (dD_lt _ _) | decide) (by first | assumption | exact dA_lt _ _ | exact dS_lt _ _ | exact dM_lt _ _ | exact dD_lt _ _ | exact dQ_lt _ | exact absV_lt (by assumption) | exact negV_lt (by assumption) | exact intW_lt _ | exact expW_lt _ | exact lnW_lt (dA_lt _ _) | exact lnW_lt (dD_lt _ _) | decide) _).mono ?_; rintro e wk ⟨rfl, bk⟩; have BL := Lib.hid (BL.out.trans (bk.mono BL.out.size)); clear bk)
    | (go_at_call 69; refine (rA (by first | assumption | exact dA_lt _ _ | exact dS_lt _ _ | exact dM_lt _ _ | exact dD_lt _ _ | exact dQ_lt _ | exact absV_lt (by assumption) | exact negV_lt (by assumption) | exact intW_lt _ | exact expW_lt _ | exact lnW_lt (dA_lt _ _) | exact lnW_lt (dD_lt _ _) | decide) (by first | assumption | exact dA_lt _ _ | exact dS_lt _ _ | exact dM_lt _ _ | exact dD_lt _ _ | exact dQ_lt _ | exact absV_lt (by assumption) | exact negV_lt (by assumption) | exact intW_lt _ | exact expW_lt _ | exact lnW_lt (dA_lt _ _) | exact lnW_lt (dD_lt _ _) | decide) _).mono ?_; rintro e wk ⟨rfl, bk⟩; have BL := Lib.hid (BL.out.trans (bk.mono BL.out.size)); clear bk)
    | (go_at_call 41; refine (rD (by first | assumption | exact dA_lt _ _ | exact dS_lt _ _ | exact dM_lt _ _ | exact dD_lt _ _ | exact dQ_lt _ | exact absV_lt (by assumption) | exact negV_lt (by assumption) | exact intW_lt _ | exact expW_lt _ | exact lnW_lt (dA_lt _ _) | exact lnW_lt (dD_lt _ _) | decide) (by first | assumption | exact dA_lt _ _ | exact dS_lt _ _ | exact dM_lt _ _ | exact dD_lt _ _ | exact dQ_lt _ | exact absV_lt (by assumption) | exact negV_lt (by assumption) | exact intW_lt _ | exact expW_lt _ | exact lnW_lt (dA_lt _ _) | exact lnW_lt (dD_lt _ _) | decide) _).mono ?_; rintro e wk ⟨rfl, bk⟩; have BL := Lib.hid (BL.out.trans (bk.mono BL.out.size)); clear bk)
    | (go_at_call 19; refine (krexp (by first | assumption | exact dA_lt _ _ | exact dS_lt _ _ | exact dM_lt _ _ | exact dD_lt _ _ | exact dQ_lt _ | exact absV_lt (by assumption) | exact negV_lt (by assumption) | exact intW_lt _ | exact expW_lt _ | exact lnW_lt (dA_lt _ _) | exact lnW_lt (dD_lt _ _) | decide) _).mono ?_; rintro e wk ⟨rfl, bk⟩; have BL := Lib.hid (BL.out.trans (bk.mono BL.out.size)); clear bk))
  go_ret
  exact ⟨rfl, BL.out⟩

theorem ktanh2 {a : Nat} (ha : a < 2 ^ 64) (h1 : ltB (intW 22) a = false) (h2 : ltB a (intW (-22)) = true) (w : World) : Kb 30 #[wd a] w (wd (intW (-1))) := by
  have BL := Lib.hid (Below.refl w.heap.size w)
  go_enter Tryz.func30, Tryz.ntmps30
  go_wp2_with (first
    | (go_at_call 59; refine (kintW _ _).mono ?_; rintro e wz ⟨rfl, hw1⟩; have hw2 := hw1.symm; clear hw1; subst hw2)
    | (go_at_call 43; refine (knless _ _ _).mono ?_; rintro e wz ⟨rfl, hw1⟩; have hw2 := hw1.symm; clear hw1; subst hw2)
    | (go_at_call 47; refine (kM _ _ _).mono ?_; rintro e wk ⟨rfl, nk, hw⟩; have BL := Lib.hid (show Below w.heap.size w wk by rw [hw]; first | exact BL.out.trans (drew_below _ _ _) | exact (BL.out.alloc BL.out.size _).trans (drew_below _ _ _)); clear hw)
    | (go_at_call 46; refine (kS _ _ _).mono ?_; rintro e wk ⟨rfl, nk, hw⟩; have BL := Lib.hid (show Below w.heap.size w wk by rw [hw]; first | exact BL.out.trans (drew_below _ _ _) | exact (BL.out.alloc BL.out.size _).trans (drew_below _ _ _)); clear hw)
    | (go_at_call 61; refine (kA _ _ _).mono ?_; rintro e wk ⟨rfl, nk, hw⟩; have BL := Lib.hid (show Below w.heap.size w wk by rw [hw]; first | exact BL.out.trans (drew_below _ _ _) | exact (BL.out.alloc BL.out.size _).trans (drew_below _ _ _)); clear hw)
    | (go_at_call 40; refine (kD _ _ _).mono ?_; rintro e wk ⟨rfl, nk, hw⟩; have BL := Lib.hid (show Below w.heap.size w wk by rw [hw]; first | exact BL.out.trans (drew_below _ _ _) | exact (BL.out.alloc BL.out.size _).trans (drew_below _ _ _)); clear hw)
    | (go_at_call 18; refine (kexp (by first | assumption | exact dA_lt _ _ | exact dS_lt _ _ | exact dM_lt _ _ | exact dD_lt _ _ | exact dQ_lt _ | exact absV_lt (by assumption) | exact negV_lt (by assumption) | exact intW_lt _ | exact expW_lt _ | exact lnW_lt (dA_lt _ _) | exact lnW_lt (dD_lt _ _) | decide) _).mono ?_; rintro e wk ⟨rfl, bk⟩; have BL := Lib.hid (BL.out.trans (bk.mono BL.out.size)); clear bk))
  go_ret
  exact ⟨rfl, BL.out⟩

theorem krtanh2 {a : Nat} (ha : a < 2 ^ 64) (na : nanW a = false) (h1 : ltB (intW 22) a = false) (h2 : ltB a (intW (-22)) = true) (w : World) : Kb 31 #[wd a] w (wd (intW (-1))) := by
  have BL := Lib.hid (Below.refl w.heap.size w)
  go_enter Tryz.func31, Tryz.ntmps31
  go_wp2_with (first
    | (go_at_call 48; refine (krNaN (by first | assumption | exact dA_lt _ _ | exact dS_lt _ _ | exact dM_lt _ _ | exact dD_lt _ _ | exact dQ_lt _ | exact absV_lt (by assumption) | exact negV_lt (by assumption) | exact intW_lt _ | exact expW_lt _ | exact lnW_lt (dA_lt _ _) | exact lnW_lt (dD_lt _ _) | decide) _).mono ?_; rintro e wz ⟨rfl, hw1⟩; have hw2 := hw1.symm; clear hw1; subst hw2)
    | (go_at_call 70; refine (krInt (by omega) (by omega) _).mono ?_; rintro e wk ⟨rfl, bk⟩; have BL := Lib.hid (BL.out.trans (bk.mono BL.out.size)); clear bk)
    | (go_at_call 49; refine (krabove (by first | assumption | exact dA_lt _ _ | exact dS_lt _ _ | exact dM_lt _ _ | exact dD_lt _ _ | exact dQ_lt _ | exact absV_lt (by assumption) | exact negV_lt (by assumption) | exact intW_lt _ | exact expW_lt _ | exact lnW_lt (dA_lt _ _) | exact lnW_lt (dD_lt _ _) | decide) (by first | assumption | exact dA_lt _ _ | exact dS_lt _ _ | exact dM_lt _ _ | exact dD_lt _ _ | exact dQ_lt _ | exact absV_lt (by assumption) | exact negV_lt (by assumption) | exact intW_lt _ | exact expW_lt _ | exact lnW_lt (dA_lt _ _) | exact lnW_lt (dD_lt _ _) | decide) _).mono ?_; rintro e wk ⟨rfl, bk⟩; have BL := Lib.hid (BL.out.trans (bk.mono BL.out.size)); clear bk)
    | (go_at_call 67; refine (krbelow (by first | assumption | exact dA_lt _ _ | exact dS_lt _ _ | exact dM_lt _ _ | exact dD_lt _ _ | exact dQ_lt _ | exact absV_lt (by assumption) | exact negV_lt (by assumption) | exact intW_lt _ | exact expW_lt _ | exact lnW_lt (dA_lt _ _) | exact lnW_lt (dD_lt _ _) | decide) (by first | assumption | exact dA_lt _ _ | exact dS_lt _ _ | exact dM_lt _ _ | exact dD_lt _ _ | exact dQ_lt _ | exact absV_lt (by assumption) | exact negV_lt (by assumption) | exact intW_lt _ | exact expW_lt _ | exact lnW_lt (dA_lt _ _) | exact lnW_lt (dD_lt _ _) | decide) _).mono ?_; rintro e wk ⟨rfl, bk⟩; have BL := Lib.hid (BL.out.trans (bk.mono BL.out.size)); clear bk)
    | (go_at_call 53; refine (rM (by first | assumption | exact dA_lt _ _ | exact dS_lt _ _ | exact dM_lt _ _ | exact dD_lt _ _ | exact dQ_lt _ | exact absV_lt (by assumption) | exact negV_lt (by assumption) | exact intW_lt _ | exact expW_lt _ | exact lnW_lt (dA_lt _ _) | exact lnW_lt (dD_lt _ _) | decide) (by first | assumption | exact dA_lt _ _ | exact dS_lt _ _ | exact dM_lt _ _ | exact dD_lt _ _ | exact dQ_lt _ | exact absV_lt (by assumption) | exact negV_lt (by assumption) | exact intW_lt _ | exact expW_lt _ | exact lnW_lt (dA_lt _ _) | exact lnW_lt (dD_lt _ _) | decide) _).mono ?_; rintro e wk ⟨rfl, bk⟩; have BL := Lib.hid (BL.out.trans (bk.mono BL.out.size)); clear bk)
    | (go_at_call 52; refine (rS (by first | assumption | exact dA_lt _ _ | exact dS_lt _ _ | exact dM_lt _ _ | exact dD_lt _ _ | exact dQ_lt _ | exact absV_lt (by assumption) | exact negV_lt (by assumption) | exact intW_lt _ | exact expW_lt _ | exact lnW_lt (dA_lt _ _) | exact lnW_lt (dD_lt _ _) | decide) (by first | assumption | exact dA_lt _ _ | exact dS_lt _ _ | exact dM_lt _ _ | exact dD_lt _ _ | exact dQ_lt _ | exact absV_lt (by assumption) | exact negV_lt (by assumption) | exact intW_lt _ | exact expW_lt _ | exact lnW_lt (dA_lt _ _) | exact lnW_lt (dD_lt _ _) | decide) _).mono ?_; rintro e wk ⟨rfl, bk⟩; have BL := Lib.hid (BL.out.trans (bk.mono BL.out.size)); clear bk)
    | (go_at_call 69; refine (rA (by first | assumption | exact dA_lt _ _ | exact dS_lt _ _ | exact dM_lt _ _ | exact dD_lt _ _ | exact dQ_lt _ | exact absV_lt (by assumption) | exact negV_lt (by assumption) | exact intW_lt _ | exact expW_lt _ | exact lnW_lt (dA_lt _ _) | exact lnW_lt (dD_lt _ _) | decide) (by first | assumption | exact dA_lt _ _ | exact dS_lt _ _ | exact dM_lt _ _ | exact dD_lt _ _ | exact dQ_lt _ | exact absV_lt (by assumption) | exact negV_lt (by assumption) | exact intW_lt _ | exact expW_lt _ | exact lnW_lt (dA_lt _ _) | exact lnW_lt (dD_lt _ _) | decide) _).mono ?_; rintro e wk ⟨rfl, bk⟩; have BL := Lib.hid (BL.out.trans (bk.mono BL.out.size)); clear bk)
    | (go_at_call 41; refine (rD (by first | assumption | exact dA_lt _ _ | exact dS_lt _ _ | exact dM_lt _ _ | exact dD_lt _ _ | exact dQ_lt _ | exact absV_lt (by assumption) | exact negV_lt (by assumption) | exact intW_lt _ | exact expW_lt _ | exact lnW_lt (dA_lt _ _) | exact lnW_lt (dD_lt _ _) | decide) (by first | assumption | exact dA_lt _ _ | exact dS_lt _ _ | exact dM_lt _ _ | exact dD_lt _ _ | exact dQ_lt _ | exact absV_lt (by assumption) | exact negV_lt (by assumption) | exact intW_lt _ | exact expW_lt _ | exact lnW_lt (dA_lt _ _) | exact lnW_lt (dD_lt _ _) | decide) _).mono ?_; rintro e wk ⟨rfl, bk⟩; have BL := Lib.hid (BL.out.trans (bk.mono BL.out.size)); clear bk)
    | (go_at_call 19; refine (krexp (by first | assumption | exact dA_lt _ _ | exact dS_lt _ _ | exact dM_lt _ _ | exact dD_lt _ _ | exact dQ_lt _ | exact absV_lt (by assumption) | exact negV_lt (by assumption) | exact intW_lt _ | exact expW_lt _ | exact lnW_lt (dA_lt _ _) | exact lnW_lt (dD_lt _ _) | decide) _).mono ?_; rintro e wk ⟨rfl, bk⟩; have BL := Lib.hid (BL.out.trans (bk.mono BL.out.size)); clear bk))
  go_ret
  exact ⟨rfl, BL.out⟩

theorem ktanh3 {a : Nat} (ha : a < 2 ^ 64) (h1 : ltB (intW 22) a = false) (h2 : ltB a (intW (-22)) = false) (w : World) : Kb 30 #[wd a] w (wd (tanhB a)) := by
  have BL := Lib.hid (Below.refl w.heap.size w)
  go_enter Tryz.func30, Tryz.ntmps30
  go_wp2_with (first
    | (go_at_call 59; refine (kintW _ _).mono ?_; rintro e wz ⟨rfl, hw1⟩; have hw2 := hw1.symm; clear hw1; subst hw2)
    | (go_at_call 43; refine (knless _ _ _).mono ?_; rintro e wz ⟨rfl, hw1⟩; have hw2 := hw1.symm; clear hw1; subst hw2)
    | (go_at_call 47; refine (kM _ _ _).mono ?_; rintro e wk ⟨rfl, nk, hw⟩; have BL := Lib.hid (show Below w.heap.size w wk by rw [hw]; first | exact BL.out.trans (drew_below _ _ _) | exact (BL.out.alloc BL.out.size _).trans (drew_below _ _ _)); clear hw)
    | (go_at_call 46; refine (kS _ _ _).mono ?_; rintro e wk ⟨rfl, nk, hw⟩; have BL := Lib.hid (show Below w.heap.size w wk by rw [hw]; first | exact BL.out.trans (drew_below _ _ _) | exact (BL.out.alloc BL.out.size _).trans (drew_below _ _ _)); clear hw)
    | (go_at_call 61; refine (kA _ _ _).mono ?_; rintro e wk ⟨rfl, nk, hw⟩; have BL := Lib.hid (show Below w.heap.size w wk by rw [hw]; first | exact BL.out.trans (drew_below _ _ _) | exact (BL.out.alloc BL.out.size _).trans (drew_below _ _ _)); clear hw)
    | (go_at_call 40; refine (kD _ _ _).mono ?_; rintro e wk ⟨rfl, nk, hw⟩; have BL := Lib.hid (show Below w.heap.size w wk by rw [hw]; first | exact BL.out.trans (drew_below _ _ _) | exact (BL.out.alloc BL.out.size _).trans (drew_below _ _ _)); clear hw)
    | (go_at_call 18; refine (kexp (by first | assumption | exact dA_lt _ _ | exact dS_lt _ _ | exact dM_lt _ _ | exact dD_lt _ _ | exact dQ_lt _ | exact absV_lt (by assumption) | exact negV_lt (by assumption) | exact intW_lt _ | exact expW_lt _ | exact lnW_lt (dA_lt _ _) | exact lnW_lt (dD_lt _ _) | decide) _).mono ?_; rintro e wk ⟨rfl, bk⟩; have BL := Lib.hid (BL.out.trans (bk.mono BL.out.size)); clear bk))
  go_ret
  exact ⟨rfl, BL.out⟩

theorem krtanh3 {a : Nat} (ha : a < 2 ^ 64) (na : nanW a = false) (h1 : ltB (intW 22) a = false) (h2 : ltB a (intW (-22)) = false) (w : World) : Kb 31 #[wd a] w (wd (tanhB a)) := by
  have BL := Lib.hid (Below.refl w.heap.size w)
  go_enter Tryz.func31, Tryz.ntmps31
  go_wp2_with (first
    | (go_at_call 48; refine (krNaN (by first | assumption | exact dA_lt _ _ | exact dS_lt _ _ | exact dM_lt _ _ | exact dD_lt _ _ | exact dQ_lt _ | exact absV_lt (by assumption) | exact negV_lt (by assumption) | exact intW_lt _ | exact expW_lt _ | exact lnW_lt (dA_lt _ _) | exact lnW_lt (dD_lt _ _) | decide) _).mono ?_; rintro e wz ⟨rfl, hw1⟩; have hw2 := hw1.symm; clear hw1; subst hw2)
    | (go_at_call 70; refine (krInt (by omega) (by omega) _).mono ?_; rintro e wk ⟨rfl, bk⟩; have BL := Lib.hid (BL.out.trans (bk.mono BL.out.size)); clear bk)
    | (go_at_call 49; refine (krabove (by first | assumption | exact dA_lt _ _ | exact dS_lt _ _ | exact dM_lt _ _ | exact dD_lt _ _ | exact dQ_lt _ | exact absV_lt (by assumption) | exact negV_lt (by assumption) | exact intW_lt _ | exact expW_lt _ | exact lnW_lt (dA_lt _ _) | exact lnW_lt (dD_lt _ _) | decide) (by first | assumption | exact dA_lt _ _ | exact dS_lt _ _ | exact dM_lt _ _ | exact dD_lt _ _ | exact dQ_lt _ | exact absV_lt (by assumption) | exact negV_lt (by assumption) | exact intW_lt _ | exact expW_lt _ | exact lnW_lt (dA_lt _ _) | exact lnW_lt (dD_lt _ _) | decide) _).mono ?_; rintro e wk ⟨rfl, bk⟩; have BL := Lib.hid (BL.out.trans (bk.mono BL.out.size)); clear bk)
    | (go_at_call 67; refine (krbelow (by first | assumption | exact dA_lt _ _ | exact dS_lt _ _ | exact dM_lt _ _ | exact dD_lt _ _ | exact dQ_lt _ | exact absV_lt (by assumption) | exact negV_lt (by assumption) | exact intW_lt _ | exact expW_lt _ | exact lnW_lt (dA_lt _ _) | exact lnW_lt (dD_lt _ _) | decide) (by first | assumption | exact dA_lt _ _ | exact dS_lt _ _ | exact dM_lt _ _ | exact dD_lt _ _ | exact dQ_lt _ | exact absV_lt (by assumption) | exact negV_lt (by assumption) | exact intW_lt _ | exact expW_lt _ | exact lnW_lt (dA_lt _ _) | exact lnW_lt (dD_lt _ _) | decide) _).mono ?_; rintro e wk ⟨rfl, bk⟩; have BL := Lib.hid (BL.out.trans (bk.mono BL.out.size)); clear bk)
    | (go_at_call 53; refine (rM (by first | assumption | exact dA_lt _ _ | exact dS_lt _ _ | exact dM_lt _ _ | exact dD_lt _ _ | exact dQ_lt _ | exact absV_lt (by assumption) | exact negV_lt (by assumption) | exact intW_lt _ | exact expW_lt _ | exact lnW_lt (dA_lt _ _) | exact lnW_lt (dD_lt _ _) | decide) (by first | assumption | exact dA_lt _ _ | exact dS_lt _ _ | exact dM_lt _ _ | exact dD_lt _ _ | exact dQ_lt _ | exact absV_lt (by assumption) | exact negV_lt (by assumption) | exact intW_lt _ | exact expW_lt _ | exact lnW_lt (dA_lt _ _) | exact lnW_lt (dD_lt _ _) | decide) _).mono ?_; rintro e wk ⟨rfl, bk⟩; have BL := Lib.hid (BL.out.trans (bk.mono BL.out.size)); clear bk)
    | (go_at_call 52; refine (rS (by first | assumption | exact dA_lt _ _ | exact dS_lt _ _ | exact dM_lt _ _ | exact dD_lt _ _ | exact dQ_lt _ | exact absV_lt (by assumption) | exact negV_lt (by assumption) | exact intW_lt _ | exact expW_lt _ | exact lnW_lt (dA_lt _ _) | exact lnW_lt (dD_lt _ _) | decide) (by first | assumption | exact dA_lt _ _ | exact dS_lt _ _ | exact dM_lt _ _ | exact dD_lt _ _ | exact dQ_lt _ | exact absV_lt (by assumption) | exact negV_lt (by assumption) | exact intW_lt _ | exact expW_lt _ | exact lnW_lt (dA_lt _ _) | exact lnW_lt (dD_lt _ _) | decide) _).mono ?_; rintro e wk ⟨rfl, bk⟩; have BL := Lib.hid (BL.out.trans (bk.mono BL.out.size)); clear bk)
    | (go_at_call 69; refine (rA (by first | assumption | exact dA_lt _ _ | exact dS_lt _ _ | exact dM_lt _ _ | exact dD_lt _ _ | exact dQ_lt _ | exact absV_lt (by assumption) | exact negV_lt (by assumption) | exact intW_lt _ | exact expW_lt _ | exact lnW_lt (dA_lt _ _) | exact lnW_lt (dD_lt _ _) | decide) (by first | assumption | exact dA_lt _ _ | exact dS_lt _ _ | exact dM_lt _ _ | exact dD_lt _ _ | exact dQ_lt _ | exact absV_lt (by assumption) | exact negV_lt (by assumption) | exact intW_lt _ | exact expW_lt _ | exact lnW_lt (dA_lt _ _) | exact lnW_lt (dD_lt _ _) | decide) _).mono ?_; rintro e wk ⟨rfl, bk⟩; have BL := Lib.hid (BL.out.trans (bk.mono BL.out.size)); clear bk)
    | (go_at_call 41; refine (rD (by first | assumption | exact dA_lt _ _ | exact dS_lt _ _ | exact dM_lt _ _ | exact dD_lt _ _ | exact dQ_lt _ | exact absV_lt (by assumption) | exact negV_lt (by assumption) | exact intW_lt _ | exact expW_lt _ | exact lnW_lt (dA_lt _ _) | exact lnW_lt (dD_lt _ _) | decide) (by first | assumption | exact dA_lt _ _ | exact dS_lt _ _ | exact dM_lt _ _ | exact dD_lt _ _ | exact dQ_lt _ | exact absV_lt (by assumption) | exact negV_lt (by assumption) | exact intW_lt _ | exact expW_lt _ | exact lnW_lt (dA_lt _ _) | exact lnW_lt (dD_lt _ _) | decide) _).mono ?_; rintro e wk ⟨rfl, bk⟩; have BL := Lib.hid (BL.out.trans (bk.mono BL.out.size)); clear bk)
    | (go_at_call 19; refine (krexp (by first | assumption | exact dA_lt _ _ | exact dS_lt _ _ | exact dM_lt _ _ | exact dD_lt _ _ | exact dQ_lt _ | exact absV_lt (by assumption) | exact negV_lt (by assumption) | exact intW_lt _ | exact expW_lt _ | exact lnW_lt (dA_lt _ _) | exact lnW_lt (dD_lt _ _) | decide) _).mono ?_; rintro e wk ⟨rfl, bk⟩; have BL := Lib.hid (BL.out.trans (bk.mono BL.out.size)); clear bk))
  go_ret
  exact ⟨rfl, BL.out⟩

theorem krtanh4 {a : Nat} (ha : a < 2 ^ 64) (na : nanW a = true) (w : World) : Kb 31 #[wd a] w (wd (theNaN)) := by
  have BL := Lib.hid (Below.refl w.heap.size w)
  go_enter Tryz.func31, Tryz.ntmps31
  go_wp2_with (first
    | (go_at_call 48; refine (krNaN (by first | assumption | exact dA_lt _ _ | exact dS_lt _ _ | exact dM_lt _ _ | exact dD_lt _ _ | exact dQ_lt _ | exact absV_lt (by assumption) | exact negV_lt (by assumption) | exact intW_lt _ | exact expW_lt _ | exact lnW_lt (dA_lt _ _) | exact lnW_lt (dD_lt _ _) | decide) _).mono ?_; rintro e wz ⟨rfl, hw1⟩; have hw2 := hw1.symm; clear hw1; subst hw2))
  go_ret
  exact ⟨rfl, BL.out⟩

theorem ktanh {a : Nat} (ha : a < 2 ^ 64) (w : World) : Kb 30 #[wd a] w (wd (tanhW a)) := by
  unfold tanhW
  cases h1 : ltB (intW 22) a
  · rw [if_neg (by decide)]
    cases h2 : ltB a (intW (-22))
    · rw [if_neg (by decide)]; exact ktanh3 ha h1 h2 w
    · rw [if_pos rfl]; exact ktanh2 ha h1 h2 w
  · rw [if_pos rfl]; exact ktanh1 ha h1 w

theorem krtanh {a : Nat} (ha : a < 2 ^ 64) (w : World) : Kb 31 #[wd a] w (wd (tanhW a)) := by
  by_cases na : nanW a = true
  · rw [tanh_nan na]; exact krtanh4 ha na w
  have na := Bool.eq_false_iff.2 na
  unfold tanhW
  cases h1 : ltB (intW 22) a
  · rw [if_neg (by decide)]
    cases h2 : ltB a (intW (-22))
    · rw [if_neg (by decide)]; exact krtanh3 ha na h1 h2 w
    · rw [if_pos rfl]; exact krtanh2 ha na h1 h2 w
  · rw [if_pos rfl]; exact krtanh1 ha na h1 w

theorem kasinh1 {a : Nat} (ha : a < 2 ^ 64) (na : nanW a = true) (hb : bitsW a = theNaN) (w : World) : Kb 32 #[wd a] w (wd (theNaN)) := by
  have BL := Lib.hid (Below.refl w.heap.size w)
  go_enter Tryz.func32, Tryz.ntmps32
  go_wp2_with (first
    | (go_at_call 42; refine (kisnan _ _).mono ?_; rintro e wz ⟨rfl, hw1⟩; have hw2 := hw1.symm; clear hw1; subst hw2)
    | (go_at_call 73; refine (kof _ _).mono ?_; rintro e wz ⟨rfl, hw1⟩; have hw2 := hw1.symm; clear hw1; subst hw2)
    | (go_at_call 76; refine (kbits _ _).mono ?_; rw [hb]; rintro e wz ⟨rfl, hw1⟩; have hw2 := hw1.symm; clear hw1; subst hw2))
  go_ret
  exact ⟨rfl, BL.out⟩

theorem krasinh1 {a : Nat} (ha : a < 2 ^ 64) (na : nanW a = true) (w : World) : Kb 33 #[wd a] w (wd (theNaN)) := by
  have BL := Lib.hid (Below.refl w.heap.size w)
  go_enter Tryz.func33, Tryz.ntmps33
  go_wp2_with (first
    | (go_at_call 48; refine (krNaN (by first | assumption | exact dA_lt _ _ | exact dS_lt _ _ | exact dM_lt _ _ | exact dD_lt _ _ | exact dQ_lt _ | exact absV_lt (by assumption) | exact negV_lt (by assumption) | exact intW_lt _ | exact expW_lt _ | exact lnW_lt (dA_lt _ _) | exact lnW_lt (dD_lt _ _) | decide) _).mono ?_; rintro e wz ⟨rfl, hw1⟩; have hw2 := hw1.symm; clear hw1; subst hw2))
  go_ret
  exact ⟨rfl, BL.out⟩

theorem kasinh2 {a : Nat} (ha : a < 2 ^ 64) (na : nanW a = false) (ia : isInfW a = true) (hb : bitsW a = a) (w : World) : Kb 32 #[wd a] w (wd (a)) := by
  have BL := Lib.hid (Below.refl w.heap.size w)
  go_enter Tryz.func32, Tryz.ntmps32
  go_wp2_with (first
    | (go_at_call 42; refine (kisnan _ _).mono ?_; rintro e wz ⟨rfl, hw1⟩; have hw2 := hw1.symm; clear hw1; subst hw2)
    | (go_at_call 88; refine (kisinf (by first | assumption | exact dA_lt _ _ | exact dS_lt _ _ | exact dM_lt _ _ | exact dD_lt _ _ | exact dQ_lt _ | exact absV_lt (by assumption) | exact negV_lt (by assumption) | exact intW_lt _ | exact expW_lt _ | exact lnW_lt (dA_lt _ _) | exact lnW_lt (dD_lt _ _) | decide) _).mono ?_; rintro e wz ⟨rfl, hw1⟩; have hw2 := hw1.symm; clear hw1; subst hw2)
    | (go_at_call 73; refine (kof _ _).mono ?_; rintro e wz ⟨rfl, hw1⟩; have hw2 := hw1.symm; clear hw1; subst hw2)
    | (go_at_call 76; refine (kbits _ _).mono ?_; rw [hb]; rintro e wz ⟨rfl, hw1⟩; have hw2 := hw1.symm; clear hw1; subst hw2))
  go_ret
  exact ⟨rfl, BL.out⟩

theorem krasinh2 {a : Nat} (ha : a < 2 ^ 64) (na : nanW a = false) (ia : isInfW a = true) (w : World) : Kb 33 #[wd a] w (wd (a)) := by
  have BL := Lib.hid (Below.refl w.heap.size w)
  go_enter Tryz.func33, Tryz.ntmps33
  go_wp2_with (first
    | (go_at_call 48; refine (krNaN (by first | assumption | exact dA_lt _ _ | exact dS_lt _ _ | exact dM_lt _ _ | exact dD_lt _ _ | exact dQ_lt _ | exact absV_lt (by assumption) | exact negV_lt (by assumption) | exact intW_lt _ | exact expW_lt _ | exact lnW_lt (dA_lt _ _) | exact lnW_lt (dD_lt _ _) | decide) _).mono ?_; rintro e wz ⟨rfl, hw1⟩; have hw2 := hw1.symm; clear hw1; subst hw2)
    | (go_at_call 81; refine (krInfQ (by first | assumption | exact dA_lt _ _ | exact dS_lt _ _ | exact dM_lt _ _ | exact dD_lt _ _ | exact dQ_lt _ | exact absV_lt (by assumption) | exact negV_lt (by assumption) | exact intW_lt _ | exact expW_lt _ | exact lnW_lt (dA_lt _ _) | exact lnW_lt (dD_lt _ _) | decide) _).mono ?_; rintro e wz ⟨rfl, hw1⟩; have hw2 := hw1.symm; clear hw1; subst hw2))
  go_ret
  exact ⟨rfl, BL.out⟩

theorem kasinh3 {a : Nat} (ha : a < 2 ^ 64) (na : nanW a = false) (ia : isInfW a = false) (w : World) : Kb 32 #[wd a] w (wd (asinhB a)) := by
  have BL := Lib.hid (Below.refl w.heap.size w)
  go_enter Tryz.func32, Tryz.ntmps32
  go_wp2_with (first
    | (go_at_call 42; refine (kisnan _ _).mono ?_; rintro e wz ⟨rfl, hw1⟩; have hw2 := hw1.symm; clear hw1; subst hw2)
    | (go_at_call 88; refine (kisinf (by first | assumption | exact dA_lt _ _ | exact dS_lt _ _ | exact dM_lt _ _ | exact dD_lt _ _ | exact dQ_lt _ | exact absV_lt (by assumption) | exact negV_lt (by assumption) | exact intW_lt _ | exact expW_lt _ | exact lnW_lt (dA_lt _ _) | exact lnW_lt (dD_lt _ _) | decide) _).mono ?_; rintro e wz ⟨rfl, hw1⟩; have hw2 := hw1.symm; clear hw1; subst hw2)
    | (go_at_call 44; refine (kabs (by first | assumption | exact dA_lt _ _ | exact dS_lt _ _ | exact dM_lt _ _ | exact dD_lt _ _ | exact dQ_lt _ | exact absV_lt (by assumption) | exact negV_lt (by assumption) | exact intW_lt _ | exact expW_lt _ | exact lnW_lt (dA_lt _ _) | exact lnW_lt (dD_lt _ _) | decide) _).mono ?_; rintro e wz ⟨rfl, hw1⟩; have hw2 := hw1.symm; clear hw1; subst hw2)
    | (go_at_call 47; refine (kM _ _ _).mono ?_; rintro e wk ⟨rfl, nk, hw⟩; have BL := Lib.hid (show Below w.heap.size w wk by rw [hw]; first | exact BL.out.trans (drew_below _ _ _) | exact (BL.out.alloc BL.out.size _).trans (drew_below _ _ _)); clear hw)
    | (go_at_call 61; refine (kA _ _ _).mono ?_; rintro e wk ⟨rfl, nk, hw⟩; have BL := Lib.hid (show Below w.heap.size w wk by rw [hw]; first | exact BL.out.trans (drew_below _ _ _) | exact (BL.out.alloc BL.out.size _).trans (drew_below _ _ _)); clear hw)
    | (go_at_call 45; refine (kQ _ _).mono ?_; rintro e wk ⟨rfl, nk, hw⟩; have BL := Lib.hid (show Below w.heap.size w wk by rw [hw]; first | exact BL.out.trans (drew_below _ _ _) | exact (BL.out.alloc BL.out.size _).trans (drew_below _ _ _)); clear hw)
    | (go_at_call 54; refine (ksigned (by first | assumption | exact dA_lt _ _ | exact dS_lt _ _ | exact dM_lt _ _ | exact dD_lt _ _ | exact dQ_lt _ | exact absV_lt (by assumption) | exact negV_lt (by assumption) | exact intW_lt _ | exact expW_lt _ | exact lnW_lt (dA_lt _ _) | exact lnW_lt (dD_lt _ _) | decide) (by first | assumption | exact dA_lt _ _ | exact dS_lt _ _ | exact dM_lt _ _ | exact dD_lt _ _ | exact dQ_lt _ | exact absV_lt (by assumption) | exact negV_lt (by assumption) | exact intW_lt _ | exact expW_lt _ | exact lnW_lt (dA_lt _ _) | exact lnW_lt (dD_lt _ _) | decide) _).mono ?_; rintro e wz ⟨rfl, hw1⟩; have hw2 := hw1.symm; clear hw1; subst hw2)
    | (go_at_call 20; refine (kln (by first | assumption | exact dA_lt _ _ | exact dS_lt _ _ | exact dM_lt _ _ | exact dD_lt _ _ | exact dQ_lt _ | exact absV_lt (by assumption) | exact negV_lt (by assumption) | exact intW_lt _ | exact expW_lt _ | exact lnW_lt (dA_lt _ _) | exact lnW_lt (dD_lt _ _) | decide) _).mono ?_; rintro e wk ⟨rfl, bk⟩; have BL := Lib.hid (BL.out.trans (bk.mono BL.out.size)); clear bk))
  go_ret
  exact ⟨rfl, BL.out⟩

theorem krasinh3 {a : Nat} (ha : a < 2 ^ 64) (na : nanW a = false) (ia : isInfW a = false) (w : World) : Kb 33 #[wd a] w (wd (asinhB a)) := by
  have BL := Lib.hid (Below.refl w.heap.size w)
  go_enter Tryz.func33, Tryz.ntmps33
  go_wp2_with (first
    | (go_at_call 48; refine (krNaN (by first | assumption | exact dA_lt _ _ | exact dS_lt _ _ | exact dM_lt _ _ | exact dD_lt _ _ | exact dQ_lt _ | exact absV_lt (by assumption) | exact negV_lt (by assumption) | exact intW_lt _ | exact expW_lt _ | exact lnW_lt (dA_lt _ _) | exact lnW_lt (dD_lt _ _) | decide) _).mono ?_; rintro e wz ⟨rfl, hw1⟩; have hw2 := hw1.symm; clear hw1; subst hw2)
    | (go_at_call 81; refine (krInfQ (by first | assumption | exact dA_lt _ _ | exact dS_lt _ _ | exact dM_lt _ _ | exact dD_lt _ _ | exact dQ_lt _ | exact absV_lt (by assumption) | exact negV_lt (by assumption) | exact intW_lt _ | exact expW_lt _ | exact lnW_lt (dA_lt _ _) | exact lnW_lt (dD_lt _ _) | decide) _).mono ?_; rintro e wz ⟨rfl, hw1⟩; have hw2 := hw1.symm; clear hw1; subst hw2)
    | (go_at_call 50; refine (krabs (by first | assumption | exact dA_lt _ _ | exact dS_lt _ _ | exact dM_lt _ _ | exact dD_lt _ _ | exact dQ_lt _ | exact absV_lt (by assumption) | exact negV_lt (by assumption) | exact intW_lt _ | exact expW_lt _ | exact lnW_lt (dA_lt _ _) | exact lnW_lt (dD_lt _ _) | decide) _).mono ?_; rintro e wz ⟨rfl, hw1⟩; have hw2 := hw1.symm; clear hw1; subst hw2)
    | (go_at_call 53; refine (rM (by first | assumption | exact dA_lt _ _ | exact dS_lt _ _ | exact dM_lt _ _ | exact dD_lt _ _ | exact dQ_lt _ | exact absV_lt (by assumption) | exact negV_lt (by assumption) | exact intW_lt _ | exact expW_lt _ | exact lnW_lt (dA_lt _ _) | exact lnW_lt (dD_lt _ _) | decide) (by first | assumption | exact dA_lt _ _ | exact dS_lt _ _ | exact dM_lt _ _ | exact dD_lt _ _ | exact dQ_lt _ | exact absV_lt (by assumption) | exact negV_lt (by assumption) | exact intW_lt _ | exact expW_lt _ | exact lnW_lt (dA_lt _ _) | exact lnW_lt (dD_lt _ _) | decide) _).mono ?_; rintro e wk ⟨rfl, bk⟩; have BL := Lib.hid (BL.out.trans (bk.mono BL.out.size)); clear bk)
    | (go_at_call 69; refine (rA (by first | assumption | exact dA_lt _ _ | exact dS_lt _ _ | exact dM_lt _ _ | exact dD_lt _ _ | exact dQ_lt _ | exact absV_lt (by assumption) | exact negV_lt (by assumption) | exact intW_lt _ | exact expW_lt _ | exact lnW_lt (dA_lt _ _) | exact lnW_lt (dD_lt _ _) | decide) (by first | assumption | exact dA_lt _ _ | exact dS_lt _ _ | exact dM_lt _ _ | exact dD_lt _ _ | exact dQ_lt _ | exact absV_lt (by assumption) | exact negV_lt (by assumption) | exact intW_lt _ | exact expW_lt _ | exact lnW_lt (dA_lt _ _) | exact lnW_lt (dD_lt _ _) | decide) _).mono ?_; rintro e wk ⟨rfl, bk⟩; have BL := Lib.hid (BL.out.trans (bk.mono BL.out.size)); clear bk)
    | (go_at_call 51; refine (rQ (by first | assumption | exact dA_lt _ _ | exact dS_lt _ _ | exact dM_lt _ _ | exact dD_lt _ _ | exact dQ_lt _ | exact absV_lt (by assumption) | exact negV_lt (by assumption) | exact intW_lt _ | exact expW_lt _ | exact lnW_lt (dA_lt _ _) | exact lnW_lt (dD_lt _ _) | decide) _).mono ?_; rintro e wk ⟨rfl, bk⟩; have BL := Lib.hid (BL.out.trans (bk.mono BL.out.size)); clear bk)
    | (go_at_call 56; refine (krsigned (by first | assumption | exact dA_lt _ _ | exact dS_lt _ _ | exact dM_lt _ _ | exact dD_lt _ _ | exact dQ_lt _ | exact absV_lt (by assumption) | exact negV_lt (by assumption) | exact intW_lt _ | exact expW_lt _ | exact lnW_lt (dA_lt _ _) | exact lnW_lt (dD_lt _ _) | decide) (by first | assumption | exact dA_lt _ _ | exact dS_lt _ _ | exact dM_lt _ _ | exact dD_lt _ _ | exact dQ_lt _ | exact absV_lt (by assumption) | exact negV_lt (by assumption) | exact intW_lt _ | exact expW_lt _ | exact lnW_lt (dA_lt _ _) | exact lnW_lt (dD_lt _ _) | decide) _).mono ?_; rintro e wz ⟨rfl, hw1⟩; have hw2 := hw1.symm; clear hw1; subst hw2)
    | (go_at_call 21; refine (krln (by first | assumption | exact dA_lt _ _ | exact dS_lt _ _ | exact dM_lt _ _ | exact dD_lt _ _ | exact dQ_lt _ | exact absV_lt (by assumption) | exact negV_lt (by assumption) | exact intW_lt _ | exact expW_lt _ | exact lnW_lt (dA_lt _ _) | exact lnW_lt (dD_lt _ _) | decide) _).mono ?_; rintro e wk ⟨rfl, bk⟩; have BL := Lib.hid (BL.out.trans (bk.mono BL.out.size)); clear bk))
  go_ret
  exact ⟨rfl, BL.out⟩

theorem kasinh {a : Nat} (ha : a < 2 ^ 64) (w : World) : Kb 32 #[wd a] w (wd (asinhW a)) := by
  unfold asinhW
  cases na : nanW a
  · rw [if_neg (by decide)]
    cases ia : isInfW a
    · rw [if_neg (by decide)]; exact kasinh3 ha na ia w
    · rw [if_pos rfl]; exact kasinh2 ha na ia (bitsW_of na) w
  · rw [if_pos rfl]; exact kasinh1 ha na (by unfold bitsW; rw [na]; rfl) w

theorem krasinh {a : Nat} (ha : a < 2 ^ 64) (w : World) : Kb 33 #[wd a] w (wd (asinhW a)) := by
  unfold asinhW
  cases na : nanW a
  · rw [if_neg (by decide)]
    cases ia : isInfW a
    · rw [if_neg (by decide)]; exact krasinh3 ha na ia w
    · rw [if_pos rfl]; exact krasinh2 ha na ia w
  · rw [if_pos rfl]; exact krasinh1 ha na w

theorem kacosh1 {a : Nat} (ha : a < 2 ^ 64) (hg : (FloatKind.f64.format.order a 4607182418800017408 == some .gt || FloatKind.f64.format.order a 4607182418800017408 == some .eq) = false) (w : World) : Kb 34 #[wd a] w (wd (theNaN)) := by
  have BL := Lib.hid (Below.refl w.heap.size w)
  go_enter Tryz.func34, Tryz.ntmps34
  go_wp2_with (first
    | (go_at_call 73; refine (kof _ _).mono ?_; rintro e wz ⟨rfl, hw1⟩; have hw2 := hw1.symm; clear hw1; subst hw2))
  go_ret
  exact ⟨rfl, BL.out⟩

theorem kracosh1 {a : Nat} (ha : a < 2 ^ 64) (na : nanW a = true) (w : World) : Kb 35 #[wd a] w (wd (theNaN)) := by
  have BL := Lib.hid (Below.refl w.heap.size w)
  go_enter Tryz.func35, Tryz.ntmps35
  go_wp2_with (first
    | (go_at_call 48; refine (krNaN (by first | assumption | exact dA_lt _ _ | exact dS_lt _ _ | exact dM_lt _ _ | exact dD_lt _ _ | exact dQ_lt _ | exact absV_lt (by assumption) | exact negV_lt (by assumption) | exact intW_lt _ | exact expW_lt _ | exact lnW_lt (dA_lt _ _) | exact lnW_lt (dD_lt _ _) | decide) _).mono ?_; rintro e wz ⟨rfl, hw1⟩; have hw2 := hw1.symm; clear hw1; subst hw2))
  go_ret
  exact ⟨rfl, BL.out⟩

theorem kracosh2 {a : Nat} (ha : a < 2 ^ 64) (na : nanW a = false) (h1 : ltB a 4607182418800017408 = true) (w : World) : Kb 35 #[wd a] w (wd (theNaN)) := by
  have BL := Lib.hid (Below.refl w.heap.size w)
  go_enter Tryz.func35, Tryz.ntmps35
  go_wp2_with (first
    | (go_at_call 48; refine (krNaN (by first | assumption | exact dA_lt _ _ | exact dS_lt _ _ | exact dM_lt _ _ | exact dD_lt _ _ | exact dQ_lt _ | exact absV_lt (by assumption) | exact negV_lt (by assumption) | exact intW_lt _ | exact expW_lt _ | exact lnW_lt (dA_lt _ _) | exact lnW_lt (dD_lt _ _) | decide) _).mono ?_; rintro e wz ⟨rfl, hw1⟩; have hw2 := hw1.symm; clear hw1; subst hw2)
    | (go_at_call 67; refine (krbelow (by first | assumption | exact dA_lt _ _ | exact dS_lt _ _ | exact dM_lt _ _ | exact dD_lt _ _ | exact dQ_lt _ | exact absV_lt (by assumption) | exact negV_lt (by assumption) | exact intW_lt _ | exact expW_lt _ | exact lnW_lt (dA_lt _ _) | exact lnW_lt (dD_lt _ _) | decide) (by first | assumption | exact dA_lt _ _ | exact dS_lt _ _ | exact dM_lt _ _ | exact dD_lt _ _ | exact dQ_lt _ | exact absV_lt (by assumption) | exact negV_lt (by assumption) | exact intW_lt _ | exact expW_lt _ | exact lnW_lt (dA_lt _ _) | exact lnW_lt (dD_lt _ _) | decide) _).mono ?_; rintro e wk ⟨rfl, bk⟩; have BL := Lib.hid (BL.out.trans (bk.mono BL.out.size)); clear bk))
  go_ret
  exact ⟨rfl, BL.out⟩

theorem kacosh3 {a : Nat} (ha : a < 2 ^ 64) (hg : (FloatKind.f64.format.order a 4607182418800017408 == some .gt || FloatKind.f64.format.order a 4607182418800017408 == some .eq) = true) (w : World) : Kb 34 #[wd a] w (wd (acoshB a)) := by
  have BL := Lib.hid (Below.refl w.heap.size w)
  go_enter Tryz.func34, Tryz.ntmps34
  go_wp2_with (first
    | (go_at_call 73; refine (kof _ _).mono ?_; rintro e wz ⟨rfl, hw1⟩; have hw2 := hw1.symm; clear hw1; subst hw2)
    | (go_at_call 47; refine (kM _ _ _).mono ?_; rintro e wk ⟨rfl, nk, hw⟩; have BL := Lib.hid (show Below w.heap.size w wk by rw [hw]; first | exact BL.out.trans (drew_below _ _ _) | exact (BL.out.alloc BL.out.size _).trans (drew_below _ _ _)); clear hw)
    | (go_at_call 46; refine (kS _ _ _).mono ?_; rintro e wk ⟨rfl, nk, hw⟩; have BL := Lib.hid (show Below w.heap.size w wk by rw [hw]; first | exact BL.out.trans (drew_below _ _ _) | exact (BL.out.alloc BL.out.size _).trans (drew_below _ _ _)); clear hw)
    | (go_at_call 45; refine (kQ _ _).mono ?_; rintro e wk ⟨rfl, nk, hw⟩; have BL := Lib.hid (show Below w.heap.size w wk by rw [hw]; first | exact BL.out.trans (drew_below _ _ _) | exact (BL.out.alloc BL.out.size _).trans (drew_below _ _ _)); clear hw)
    | (go_at_call 61; refine (kA _ _ _).mono ?_; rintro e wk ⟨rfl, nk, hw⟩; have BL := Lib.hid (show Below w.heap.size w wk by rw [hw]; first | exact BL.out.trans (drew_below _ _ _) | exact (BL.out.alloc BL.out.size _).trans (drew_below _ _ _)); clear hw)
    | (go_at_call 20; refine (kln (by first | assumption | exact dA_lt _ _ | exact dS_lt _ _ | exact dM_lt _ _ | exact dD_lt _ _ | exact dQ_lt _ | exact absV_lt (by assumption) | exact negV_lt (by assumption) | exact intW_lt _ | exact expW_lt _ | exact lnW_lt (dA_lt _ _) | exact lnW_lt (dD_lt _ _) | decide) _).mono ?_; rintro e wk ⟨rfl, bk⟩; have BL := Lib.hid (BL.out.trans (bk.mono BL.out.size)); clear bk))
  go_ret
  exact ⟨rfl, BL.out⟩

theorem kracosh3 {a : Nat} (ha : a < 2 ^ 64) (na : nanW a = false) (h1 : ltB a 4607182418800017408 = false) (w : World) : Kb 35 #[wd a] w (wd (acoshB a)) := by
  have BL := Lib.hid (Below.refl w.heap.size w)
  go_enter Tryz.func35, Tryz.ntmps35
  go_wp2_with (first
    | (go_at_call 48; refine (krNaN (by first | assumption | exact dA_lt _ _ | exact dS_lt _ _ | exact dM_lt _ _ | exact dD_lt _ _ | exact dQ_lt _ | exact absV_lt (by assumption) | exact negV_lt (by assumption) | exact intW_lt _ | exact expW_lt _ | exact lnW_lt (dA_lt _ _) | exact lnW_lt (dD_lt _ _) | decide) _).mono ?_; rintro e wz ⟨rfl, hw1⟩; have hw2 := hw1.symm; clear hw1; subst hw2)
    | (go_at_call 67; refine (krbelow (by first | assumption | exact dA_lt _ _ | exact dS_lt _ _ | exact dM_lt _ _ | exact dD_lt _ _ | exact dQ_lt _ | exact absV_lt (by assumption) | exact negV_lt (by assumption) | exact intW_lt _ | exact expW_lt _ | exact lnW_lt (dA_lt _ _) | exact lnW_lt (dD_lt _ _) | decide) (by first | assumption | exact dA_lt _ _ | exact dS_lt _ _ | exact dM_lt _ _ | exact dD_lt _ _ | exact dQ_lt _ | exact absV_lt (by assumption) | exact negV_lt (by assumption) | exact intW_lt _ | exact expW_lt _ | exact lnW_lt (dA_lt _ _) | exact lnW_lt (dD_lt _ _) | decide) _).mono ?_; rintro e wk ⟨rfl, bk⟩; have BL := Lib.hid (BL.out.trans (bk.mono BL.out.size)); clear bk)
    | (go_at_call 53; refine (rM (by first | assumption | exact dA_lt _ _ | exact dS_lt _ _ | exact dM_lt _ _ | exact dD_lt _ _ | exact dQ_lt _ | exact absV_lt (by assumption) | exact negV_lt (by assumption) | exact intW_lt _ | exact expW_lt _ | exact lnW_lt (dA_lt _ _) | exact lnW_lt (dD_lt _ _) | decide) (by first | assumption | exact dA_lt _ _ | exact dS_lt _ _ | exact dM_lt _ _ | exact dD_lt _ _ | exact dQ_lt _ | exact absV_lt (by assumption) | exact negV_lt (by assumption) | exact intW_lt _ | exact expW_lt _ | exact lnW_lt (dA_lt _ _) | exact lnW_lt (dD_lt _ _) | decide) _).mono ?_; rintro e wk ⟨rfl, bk⟩; have BL := Lib.hid (BL.out.trans (bk.mono BL.out.size)); clear bk)
    | (go_at_call 52; refine (rS (by first | assumption | exact dA_lt _ _ | exact dS_lt _ _ | exact dM_lt _ _ | exact dD_lt _ _ | exact dQ_lt _ | exact absV_lt (by assumption) | exact negV_lt (by assumption) | exact intW_lt _ | exact expW_lt _ | exact lnW_lt (dA_lt _ _) | exact lnW_lt (dD_lt _ _) | decide) (by first | assumption | exact dA_lt _ _ | exact dS_lt _ _ | exact dM_lt _ _ | exact dD_lt _ _ | exact dQ_lt _ | exact absV_lt (by assumption) | exact negV_lt (by assumption) | exact intW_lt _ | exact expW_lt _ | exact lnW_lt (dA_lt _ _) | exact lnW_lt (dD_lt _ _) | decide) _).mono ?_; rintro e wk ⟨rfl, bk⟩; have BL := Lib.hid (BL.out.trans (bk.mono BL.out.size)); clear bk)
    | (go_at_call 51; refine (rQ (by first | assumption | exact dA_lt _ _ | exact dS_lt _ _ | exact dM_lt _ _ | exact dD_lt _ _ | exact dQ_lt _ | exact absV_lt (by assumption) | exact negV_lt (by assumption) | exact intW_lt _ | exact expW_lt _ | exact lnW_lt (dA_lt _ _) | exact lnW_lt (dD_lt _ _) | decide) _).mono ?_; rintro e wk ⟨rfl, bk⟩; have BL := Lib.hid (BL.out.trans (bk.mono BL.out.size)); clear bk)
    | (go_at_call 69; refine (rA (by first | assumption | exact dA_lt _ _ | exact dS_lt _ _ | exact dM_lt _ _ | exact dD_lt _ _ | exact dQ_lt _ | exact absV_lt (by assumption) | exact negV_lt (by assumption) | exact intW_lt _ | exact expW_lt _ | exact lnW_lt (dA_lt _ _) | exact lnW_lt (dD_lt _ _) | decide) (by first | assumption | exact dA_lt _ _ | exact dS_lt _ _ | exact dM_lt _ _ | exact dD_lt _ _ | exact dQ_lt _ | exact absV_lt (by assumption) | exact negV_lt (by assumption) | exact intW_lt _ | exact expW_lt _ | exact lnW_lt (dA_lt _ _) | exact lnW_lt (dD_lt _ _) | decide) _).mono ?_; rintro e wk ⟨rfl, bk⟩; have BL := Lib.hid (BL.out.trans (bk.mono BL.out.size)); clear bk)
    | (go_at_call 21; refine (krln (by first | assumption | exact dA_lt _ _ | exact dS_lt _ _ | exact dM_lt _ _ | exact dD_lt _ _ | exact dQ_lt _ | exact absV_lt (by assumption) | exact negV_lt (by assumption) | exact intW_lt _ | exact expW_lt _ | exact lnW_lt (dA_lt _ _) | exact lnW_lt (dD_lt _ _) | decide) _).mono ?_; rintro e wk ⟨rfl, bk⟩; have BL := Lib.hid (BL.out.trans (bk.mono BL.out.size)); clear bk))
  go_ret
  exact ⟨rfl, BL.out⟩

theorem kacosh {a : Nat} (ha : a < 2 ^ 64) (w : World) : Kb 34 #[wd a] w (wd (acoshW a)) := by
  unfold acoshW
  cases na : nanW a
  · rw [if_neg (by decide)]
    have hg := ge_one na
    cases h1 : ltB a 4607182418800017408
    · rw [if_neg (by decide)]; rw [h1] at hg; exact kacosh3 ha hg w
    · rw [if_pos rfl]; rw [h1] at hg; exact kacosh1 ha hg w
  · rw [if_pos rfl]; exact kacosh1 ha (ge_nan na) w
theorem kracosh {a : Nat} (ha : a < 2 ^ 64) (w : World) : Kb 35 #[wd a] w (wd (acoshW a)) := by
  unfold acoshW
  cases na : nanW a
  · rw [if_neg (by decide)]
    cases h1 : ltB a 4607182418800017408
    · rw [if_neg (by decide)]; exact kracosh3 ha na h1 w
    · rw [if_pos rfl]; exact kracosh2 ha na h1 w
  · rw [if_pos rfl]; exact kracosh1 ha na w

theorem katanh1 {a : Nat} (ha : a < 2 ^ 64) (na : nanW a = true) (w : World) : Kb 36 #[wd a] w (wd (theNaN)) := by
  have BL := Lib.hid (Below.refl w.heap.size w)
  go_enter Tryz.func36, Tryz.ntmps36
  go_wp2_with (first
    | (go_at_call 42; refine (kisnan _ _).mono ?_; rintro e wz ⟨rfl, hw1⟩; have hw2 := hw1.symm; clear hw1; subst hw2))
  go_ret
  exact ⟨rfl, BL.out⟩

theorem kratanh1 {a : Nat} (ha : a < 2 ^ 64) (na : nanW a = true) (w : World) : Kb 37 #[wd a] w (wd (theNaN)) := by
  have BL := Lib.hid (Below.refl w.heap.size w)
  go_enter Tryz.func37, Tryz.ntmps37
  go_wp2_with (first
    | (go_at_call 48; refine (krNaN (by first | assumption | exact dA_lt _ _ | exact dS_lt _ _ | exact dM_lt _ _ | exact dD_lt _ _ | exact dQ_lt _ | exact absV_lt (by assumption) | exact negV_lt (by assumption) | exact intW_lt _ | exact expW_lt _ | exact lnW_lt (dA_lt _ _) | exact lnW_lt (dD_lt _ _) | decide) _).mono ?_; rintro e wz ⟨rfl, hw1⟩; have hw2 := hw1.symm; clear hw1; subst hw2))
  go_ret
  exact ⟨rfl, BL.out⟩

theorem katanh2 {a : Nat} (ha : a < 2 ^ 64) (na : nanW a = false) (h1 : ltB 4607182418800017408 (absV a) = true) (w : World) : Kb 36 #[wd a] w (wd (theNaN)) := by
  have BL := Lib.hid (Below.refl w.heap.size w)
  go_enter Tryz.func36, Tryz.ntmps36
  go_wp2_with (first
    | (go_at_call 42; refine (kisnan _ _).mono ?_; rintro e wz ⟨rfl, hw1⟩; have hw2 := hw1.symm; clear hw1; subst hw2)
    | (go_at_call 44; refine (kabs (by first | assumption | exact dA_lt _ _ | exact dS_lt _ _ | exact dM_lt _ _ | exact dD_lt _ _ | exact dQ_lt _ | exact absV_lt (by assumption) | exact negV_lt (by assumption) | exact intW_lt _ | exact expW_lt _ | exact lnW_lt (dA_lt _ _) | exact lnW_lt (dD_lt _ _) | decide) _).mono ?_; rintro e wz ⟨rfl, hw1⟩; have hw2 := hw1.symm; clear hw1; subst hw2)
    | (go_at_call 43; refine (knless _ _ _).mono ?_; rintro e wz ⟨rfl, hw1⟩; have hw2 := hw1.symm; clear hw1; subst hw2))
  go_ret
  exact ⟨rfl, BL.out⟩

theorem kratanh2 {a : Nat} (ha : a < 2 ^ 64) (na : nanW a = false) (h1 : ltB 4607182418800017408 (absV a) = true) (w : World) : Kb 37 #[wd a] w (wd (theNaN)) := by
  have BL := Lib.hid (Below.refl w.heap.size w)
  go_enter Tryz.func37, Tryz.ntmps37
  go_wp2_with (first
    | (go_at_call 48; refine (krNaN (by first | assumption | exact dA_lt _ _ | exact dS_lt _ _ | exact dM_lt _ _ | exact dD_lt _ _ | exact dQ_lt _ | exact absV_lt (by assumption) | exact negV_lt (by assumption) | exact intW_lt _ | exact expW_lt _ | exact lnW_lt (dA_lt _ _) | exact lnW_lt (dD_lt _ _) | decide) _).mono ?_; rintro e wz ⟨rfl, hw1⟩; have hw2 := hw1.symm; clear hw1; subst hw2)
    | (go_at_call 50; refine (krabs (by first | assumption | exact dA_lt _ _ | exact dS_lt _ _ | exact dM_lt _ _ | exact dD_lt _ _ | exact dQ_lt _ | exact absV_lt (by assumption) | exact negV_lt (by assumption) | exact intW_lt _ | exact expW_lt _ | exact lnW_lt (dA_lt _ _) | exact lnW_lt (dD_lt _ _) | decide) _).mono ?_; rintro e wz ⟨rfl, hw1⟩; have hw2 := hw1.symm; clear hw1; subst hw2)
    | (go_at_call 49; refine (krabove (by first | assumption | exact dA_lt _ _ | exact dS_lt _ _ | exact dM_lt _ _ | exact dD_lt _ _ | exact dQ_lt _ | exact absV_lt (by assumption) | exact negV_lt (by assumption) | exact intW_lt _ | exact expW_lt _ | exact lnW_lt (dA_lt _ _) | exact lnW_lt (dD_lt _ _) | decide) (by first | assumption | exact dA_lt _ _ | exact dS_lt _ _ | exact dM_lt _ _ | exact dD_lt _ _ | exact dQ_lt _ | exact absV_lt (by assumption) | exact negV_lt (by assumption) | exact intW_lt _ | exact expW_lt _ | exact lnW_lt (dA_lt _ _) | exact lnW_lt (dD_lt _ _) | decide) _).mono ?_; rintro e wk ⟨rfl, bk⟩; have BL := Lib.hid (BL.out.trans (bk.mono BL.out.size)); clear bk))
  go_ret
  exact ⟨rfl, BL.out⟩

theorem katanh3 {a : Nat} (ha : a < 2 ^ 64) (na : nanW a = false) (h1 : ltB 4607182418800017408 (absV a) = false) (w : World) : Kb 36 #[wd a] w (wd (dM 4602678819172646912 (lnW (dD (dA 4607182418800017408 a) (dS 4607182418800017408 a))))) := by
  have BL := Lib.hid (Below.refl w.heap.size w)
  go_enter Tryz.func36, Tryz.ntmps36
  go_wp2_with (first
    | (go_at_call 42; refine (kisnan _ _).mono ?_; rintro e wz ⟨rfl, hw1⟩; have hw2 := hw1.symm; clear hw1; subst hw2)
    | (go_at_call 44; refine (kabs (by first | assumption | exact dA_lt _ _ | exact dS_lt _ _ | exact dM_lt _ _ | exact dD_lt _ _ | exact dQ_lt _ | exact absV_lt (by assumption) | exact negV_lt (by assumption) | exact intW_lt _ | exact expW_lt _ | exact lnW_lt (dA_lt _ _) | exact lnW_lt (dD_lt _ _) | decide) _).mono ?_; rintro e wz ⟨rfl, hw1⟩; have hw2 := hw1.symm; clear hw1; subst hw2)
    | (go_at_call 43; refine (knless _ _ _).mono ?_; rintro e wz ⟨rfl, hw1⟩; have hw2 := hw1.symm; clear hw1; subst hw2)
    | (go_at_call 61; refine (kA _ _ _).mono ?_; rintro e wk ⟨rfl, nk, hw⟩; have BL := Lib.hid (show Below w.heap.size w wk by rw [hw]; first | exact BL.out.trans (drew_below _ _ _) | exact (BL.out.alloc BL.out.size _).trans (drew_below _ _ _)); clear hw)
    | (go_at_call 46; refine (kS _ _ _).mono ?_; rintro e wk ⟨rfl, nk, hw⟩; have BL := Lib.hid (show Below w.heap.size w wk by rw [hw]; first | exact BL.out.trans (drew_below _ _ _) | exact (BL.out.alloc BL.out.size _).trans (drew_below _ _ _)); clear hw)
    | (go_at_call 40; refine (kD _ _ _).mono ?_; rintro e wk ⟨rfl, nk, hw⟩; have BL := Lib.hid (show Below w.heap.size w wk by rw [hw]; first | exact BL.out.trans (drew_below _ _ _) | exact (BL.out.alloc BL.out.size _).trans (drew_below _ _ _)); clear hw)
    | (go_at_call 47; refine (kM _ _ _).mono ?_; rintro e wk ⟨rfl, nk, hw⟩; have BL := Lib.hid (show Below w.heap.size w wk by rw [hw]; first | exact BL.out.trans (drew_below _ _ _) | exact (BL.out.alloc BL.out.size _).trans (drew_below _ _ _)); clear hw)
    | (go_at_call 20; refine (kln (by first | assumption | exact dA_lt _ _ | exact dS_lt _ _ | exact dM_lt _ _ | exact dD_lt _ _ | exact dQ_lt _ | exact absV_lt (by assumption) | exact negV_lt (by assumption) | exact intW_lt _ | exact expW_lt _ | exact lnW_lt (dA_lt _ _) | exact lnW_lt (dD_lt _ _) | decide) _).mono ?_; rintro e wk ⟨rfl, bk⟩; have BL := Lib.hid (BL.out.trans (bk.mono BL.out.size)); clear bk))
  go_ret
  exact ⟨rfl, BL.out⟩

theorem kratanh3 {a : Nat} (ha : a < 2 ^ 64) (na : nanW a = false) (h1 : ltB 4607182418800017408 (absV a) = false) (w : World) : Kb 37 #[wd a] w (wd (dM 4602678819172646912 (lnW (dD (dA 4607182418800017408 a) (dS 4607182418800017408 a))))) := by
  have BL := Lib.hid (Below.refl w.heap.size w)
  go_enter Tryz.func37, Tryz.ntmps37
  go_wp2_with (first
    | (go_at_call 48; refine (krNaN (by first | assumption | exact dA_lt _ _ | exact dS_lt _ _ | exact dM_lt _ _ | exact dD_lt _ _ | exact dQ_lt _ | exact absV_lt (by assumption) | exact negV_lt (by assumption) | exact intW_lt _ | exact expW_lt _ | exact lnW_lt (dA_lt _ _) | exact lnW_lt (dD_lt _ _) | decide) _).mono ?_; rintro e wz ⟨rfl, hw1⟩; have hw2 := hw1.symm; clear hw1; subst hw2)
    | (go_at_call 50; refine (krabs (by first | assumption | exact dA_lt _ _ | exact dS_lt _ _ | exact dM_lt _ _ | exact dD_lt _ _ | exact dQ_lt _ | exact absV_lt (by assumption) | exact negV_lt (by assumption) | exact intW_lt _ | exact expW_lt _ | exact lnW_lt (dA_lt _ _) | exact lnW_lt (dD_lt _ _) | decide) _).mono ?_; rintro e wz ⟨rfl, hw1⟩; have hw2 := hw1.symm; clear hw1; subst hw2)
    | (go_at_call 49; refine (krabove (by first | assumption | exact dA_lt _ _ | exact dS_lt _ _ | exact dM_lt _ _ | exact dD_lt _ _ | exact dQ_lt _ | exact absV_lt (by assumption) | exact negV_lt (by assumption) | exact intW_lt _ | exact expW_lt _ | exact lnW_lt (dA_lt _ _) | exact lnW_lt (dD_lt _ _) | decide) (by first | assumption | exact dA_lt _ _ | exact dS_lt _ _ | exact dM_lt _ _ | exact dD_lt _ _ | exact dQ_lt _ | exact absV_lt (by assumption) | exact negV_lt (by assumption) | exact intW_lt _ | exact expW_lt _ | exact lnW_lt (dA_lt _ _) | exact lnW_lt (dD_lt _ _) | decide) _).mono ?_; rintro e wk ⟨rfl, bk⟩; have BL := Lib.hid (BL.out.trans (bk.mono BL.out.size)); clear bk)
    | (go_at_call 69; refine (rA (by first | assumption | exact dA_lt _ _ | exact dS_lt _ _ | exact dM_lt _ _ | exact dD_lt _ _ | exact dQ_lt _ | exact absV_lt (by assumption) | exact negV_lt (by assumption) | exact intW_lt _ | exact expW_lt _ | exact lnW_lt (dA_lt _ _) | exact lnW_lt (dD_lt _ _) | decide) (by first | assumption | exact dA_lt _ _ | exact dS_lt _ _ | exact dM_lt _ _ | exact dD_lt _ _ | exact dQ_lt _ | exact absV_lt (by assumption) | exact negV_lt (by assumption) | exact intW_lt _ | exact expW_lt _ | exact lnW_lt (dA_lt _ _) | exact lnW_lt (dD_lt _ _) | decide) _).mono ?_; rintro e wk ⟨rfl, bk⟩; have BL := Lib.hid (BL.out.trans (bk.mono BL.out.size)); clear bk)
    | (go_at_call 52; refine (rS (by first | assumption | exact dA_lt _ _ | exact dS_lt _ _ | exact dM_lt _ _ | exact dD_lt _ _ | exact dQ_lt _ | exact absV_lt (by assumption) | exact negV_lt (by assumption) | exact intW_lt _ | exact expW_lt _ | exact lnW_lt (dA_lt _ _) | exact lnW_lt (dD_lt _ _) | decide) (by first | assumption | exact dA_lt _ _ | exact dS_lt _ _ | exact dM_lt _ _ | exact dD_lt _ _ | exact dQ_lt _ | exact absV_lt (by assumption) | exact negV_lt (by assumption) | exact intW_lt _ | exact expW_lt _ | exact lnW_lt (dA_lt _ _) | exact lnW_lt (dD_lt _ _) | decide) _).mono ?_; rintro e wk ⟨rfl, bk⟩; have BL := Lib.hid (BL.out.trans (bk.mono BL.out.size)); clear bk)
    | (go_at_call 41; refine (rD (by first | assumption | exact dA_lt _ _ | exact dS_lt _ _ | exact dM_lt _ _ | exact dD_lt _ _ | exact dQ_lt _ | exact absV_lt (by assumption) | exact negV_lt (by assumption) | exact intW_lt _ | exact expW_lt _ | exact lnW_lt (dA_lt _ _) | exact lnW_lt (dD_lt _ _) | decide) (by first | assumption | exact dA_lt _ _ | exact dS_lt _ _ | exact dM_lt _ _ | exact dD_lt _ _ | exact dQ_lt _ | exact absV_lt (by assumption) | exact negV_lt (by assumption) | exact intW_lt _ | exact expW_lt _ | exact lnW_lt (dA_lt _ _) | exact lnW_lt (dD_lt _ _) | decide) _).mono ?_; rintro e wk ⟨rfl, bk⟩; have BL := Lib.hid (BL.out.trans (bk.mono BL.out.size)); clear bk)
    | (go_at_call 53; refine (rM (by first | assumption | exact dA_lt _ _ | exact dS_lt _ _ | exact dM_lt _ _ | exact dD_lt _ _ | exact dQ_lt _ | exact absV_lt (by assumption) | exact negV_lt (by assumption) | exact intW_lt _ | exact expW_lt _ | exact lnW_lt (dA_lt _ _) | exact lnW_lt (dD_lt _ _) | decide) (by first | assumption | exact dA_lt _ _ | exact dS_lt _ _ | exact dM_lt _ _ | exact dD_lt _ _ | exact dQ_lt _ | exact absV_lt (by assumption) | exact negV_lt (by assumption) | exact intW_lt _ | exact expW_lt _ | exact lnW_lt (dA_lt _ _) | exact lnW_lt (dD_lt _ _) | decide) _).mono ?_; rintro e wk ⟨rfl, bk⟩; have BL := Lib.hid (BL.out.trans (bk.mono BL.out.size)); clear bk)
    | (go_at_call 21; refine (krln (by first | assumption | exact dA_lt _ _ | exact dS_lt _ _ | exact dM_lt _ _ | exact dD_lt _ _ | exact dQ_lt _ | exact absV_lt (by assumption) | exact negV_lt (by assumption) | exact intW_lt _ | exact expW_lt _ | exact lnW_lt (dA_lt _ _) | exact lnW_lt (dD_lt _ _) | decide) _).mono ?_; rintro e wk ⟨rfl, bk⟩; have BL := Lib.hid (BL.out.trans (bk.mono BL.out.size)); clear bk))
  go_ret
  exact ⟨rfl, BL.out⟩

theorem katanh {a : Nat} (ha : a < 2 ^ 64) (w : World) : Kb 36 #[wd a] w (wd (atanhW a)) := by
  unfold atanhW
  cases na : nanW a
  · rw [if_neg (by decide)]
    cases h1 : ltB 4607182418800017408 (absV a)
    · rw [if_neg (by decide)]; exact katanh3 ha na h1 w
    · rw [if_pos rfl]; exact katanh2 ha na h1 w
  · rw [if_pos rfl]; exact katanh1 ha na w

theorem kratanh {a : Nat} (ha : a < 2 ^ 64) (w : World) : Kb 37 #[wd a] w (wd (atanhW a)) := by
  unfold atanhW
  cases na : nanW a
  · rw [if_neg (by decide)]
    cases h1 : ltB 4607182418800017408 (absV a)
    · rw [if_neg (by decide)]; exact kratanh3 ha na h1 w
    · rw [if_pos rfl]; exact kratanh2 ha na h1 w
  · rw [if_pos rfl]; exact kratanh1 ha na w

end Go.Proofs.YtoodbdjmbicaeaaGreat
