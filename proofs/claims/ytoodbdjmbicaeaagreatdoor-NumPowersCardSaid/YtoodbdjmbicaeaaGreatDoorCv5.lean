/- Angles of tangents, sines, cosines, of both texts. No condition. -/
import Derived.Test.YtoodbdjmbicaeaaGreatDoorCv4
namespace Go.Proofs.YtoodbdjmbicaeaaGreatDoor
open Go.RowKit
set_option maxRecDepth 20000
set_option maxHeartbeats 2000000
set_option linter.unusedVariables false
set_option linter.unusedSimpArgs false

def tanW (a : Nat) : Nat := dD (sinW 0 a) (sinW 1 a)
def oddR (s : Nat) : Nat := rowN (oddF s) 2 23 45 (dD 4607182418800017408 (intW 47))
def oddW (z : Nat) : Nat := dM z (oddR (dM z z))
def smallW (y : Nat) : Nat := if ltB 4601133428098527026 y then dA 4605249457297304856 (oddW (dD (dS y 4607182418800017408) (dA y 4607182418800017408))) else oddW y
def atanW (a : Nat) : Nat := if nanW a then theNaN else if ltB 4607182418800017408 (absV a) then sgnd (dS 4609753056924675352 (smallW (dD 4607182418800017408 (absV a)))) a else sgnd (smallW (absV a)) a
def asinW (a : Nat) : Nat := if nanW a then theNaN else if ltB 4607182418800017408 (absV a) then theNaN else atanW (dD a (dQ (dS 4607182418800017408 (dM a a))))
def acosW (a : Nat) : Nat := dS 4609753056924675352 (asinW a)
theorem oddF_lt (s p i : Nat) : oddF s p i < 2 ^ 64 := dS_lt _ _
theorem oddR_lt (s : Nat) : oddR s < 2 ^ 64 := rowN_lt (oddF_lt _) _ _ _ _ (dD_lt _ _)
theorem oddW_lt (z : Nat) : oddW z < 2 ^ 64 := dM_lt _ _
theorem tanW_lt (z : Nat) : tanW z < 2 ^ 64 := dD_lt _ _
theorem acosW_lt (z : Nat) : acosW z < 2 ^ 64 := dS_lt _ _
theorem smallW_lt (y : Nat) : smallW y < 2 ^ 64 := by
  unfold smallW
  split
  · exact dA_lt _ _
  · exact oddW_lt _
theorem atanW_lt (y : Nat) : atanW y < 2 ^ 64 := by
  unfold atanW
  split
  · exact theNaN_lt
  · split
    · exact sgnd_lt (dS_lt _ _)
    · exact sgnd_lt (smallW_lt _)
theorem asinW_lt (y : Nat) : asinW y < 2 ^ 64 := by
  unfold asinW
  split
  · exact theNaN_lt
  · split
    · exact theNaN_lt
    · exact atanW_lt _

set_option maxRecDepth 100000 in
theorem kodd {a : Nat} (ha : a < 2 ^ 64)  (w : World) : Kb 100 #[wd a] w (wd (oddW a)) := by
  have BL := Lib.hid (Below.refl w.heap.size w)
  go_enter Tryz.func100, Tryz.ntmps100
  go_wp2_with (first
    | (go_at_call 27; refine (kM _ _ _).mono ?_; rintro e wk ⟨rfl, nk, hw⟩; have BL := Lib.hid (show Below w.heap.size w wk by rw [hw]; first | exact BL.out.trans (drew_below _ _ _) | exact (BL.out.trans (drew_below _ _ _)).trans (drew_below _ _ _) | exact (BL.out.alloc BL.out.size _).trans (drew_below _ _ _)); clear hw)
    | (go_at_call 10; refine (kintW _ _).mono ?_; rintro e wz ⟨rfl, hw1⟩; have hw2 := hw1.symm; clear hw1; subst hw2)
    | (go_at_call 13; refine (kD _ _ _).mono ?_; rintro e wk ⟨rfl, nk, rfl⟩)
    | (go_at_call 62; refine (krowO (oddF _) _ _ _ _ (cell_newD _ _ _ _) (Lib.hid fun p i W hc => koddF _ p i W _ hc)).mono ?_; rintro e wk ⟨rfl, nk, hw⟩; have BL := Lib.hid (show Below w.heap.size w wk by rw [hw]; first | exact BL.out.trans (drew_below _ _ _) | exact (BL.out.trans (drew_below _ _ _)).trans (drew_below _ _ _) | exact ((BL.out.alloc BL.out.size _).trans (drew_below _ _ _)).trans (drew_below _ _ _) | exact (BL.out.alloc BL.out.size _).trans (drew_below _ _ _)); clear hw))
  go_ret
  exact ⟨rfl, BL.out⟩

set_option maxRecDepth 100000 in
theorem krodd {a : Nat} (ha : a < 2 ^ 64) (w : World) : Kb 101 #[wd a] w (wd (oddW a)) := by
  obtain ⟨RR, hRR⟩ : ∃ RR, oddR (dM a a) = RR := ⟨_, rfl⟩
  have LR : RR < 2 ^ 64 := by rw [← hRR]; exact oddR_lt _
  have HE : Hid (oddW a = dM a RR) := Lib.hid (by unfold oddW; rw [hRR])
  unfold oddR at hRR
  have BL := Lib.hid (Below.refl w.heap.size w)
  obtain ⟨S, hS⟩ : ∃ S, dM a a = S := ⟨_, rfl⟩
  have LS : S < 2 ^ 64 := by rw [← hS]; exact dM_lt _ _
  rw [hS] at hRR
  have HRR := Lib.hid hRR
  clear hRR
  go_enter Tryz.func101, Tryz.ntmps101
  go_wp2_with (first
    | (go_at_call 39; refine (rM (by first | assumption | exact dA_lt _ _ | exact dS_lt _ _ | exact dM_lt _ _ | exact dD_lt _ _ | exact dQ_lt _ | exact absV_lt (by assumption) | exact intW_lt _ | exact smallW_lt _ | exact oddW_lt _ | exact atanW_lt _ | exact asinW_lt _ | decide) (by first | assumption | exact dA_lt _ _ | exact dS_lt _ _ | exact dM_lt _ _ | exact dD_lt _ _ | exact dQ_lt _ | exact absV_lt (by assumption) | exact intW_lt _ | exact smallW_lt _ | exact oddW_lt _ | exact atanW_lt _ | exact asinW_lt _ | decide) _).mono ?_; rintro e wk ⟨rfl, bk⟩; have BL := Lib.hid (BL.out.trans (bk.mono BL.out.size)); clear bk)
    | (go_at_call 81; refine (krInt (by omega) (by omega) _).mono ?_; rintro e wk ⟨rfl, bk⟩; have BL := Lib.hid (BL.out.trans (bk.mono BL.out.size)); clear bk)
    | (go_at_call 40; refine (rD (by first | assumption | exact dA_lt _ _ | exact dS_lt _ _ | exact dM_lt _ _ | exact dD_lt _ _ | exact dQ_lt _ | exact absV_lt (by assumption) | exact intW_lt _ | exact smallW_lt _ | exact oddW_lt _ | exact atanW_lt _ | exact asinW_lt _ | decide) (by first | assumption | exact dA_lt _ _ | exact dS_lt _ _ | exact dM_lt _ _ | exact dD_lt _ _ | exact dQ_lt _ | exact absV_lt (by assumption) | exact intW_lt _ | exact smallW_lt _ | exact oddW_lt _ | exact atanW_lt _ | exact asinW_lt _ | decide) _).mono ?_; rintro e wk ⟨rfl, bk⟩; have BL := Lib.hid (BL.out.trans (bk.mono BL.out.size)); clear bk))
  go_loopw [4, 5] (fun x y wr => ∃ (k p : Nat) (z : Int), x = wd p ∧ y = .int .i64 z ∧ z = 45 - 2 * (k : Int) ∧ k ≤ 23 ∧ p < 2 ^ 64 ∧ rowN (oddF S) 2 (23 - k) z p = RR ∧ Below w.heap.size w wr) (fun _ y _ => ((intOf y) + 2).toNat)
  case atStart => exact ⟨0, _, 45, rfl, rfl, by omega, by omega, dD_lt _ _, HRR.out, BL.out⟩
  case round =>
    obtain ⟨k, p, z, rfl, rfl, hz, hk, lp, hr, bl⟩ := hrel
    have BL := Lib.hid bl
    clear bl
    by_cases hkn : k = 23
    · have hz2 : z < 1 ∧ -1000 ≤ z := by omega
      rw [hkn] at hr
      have hp : p = RR := hr
      subst hp
      clear hz hk hr hkn HRR
      go_wp2_with (first
        | (go_at_call 39; refine (rM (by first | assumption | exact dA_lt _ _ | exact dS_lt _ _ | exact dM_lt _ _ | exact dD_lt _ _ | exact dQ_lt _ | exact absV_lt (by assumption) | exact intW_lt _ | exact smallW_lt _ | exact oddW_lt _ | exact atanW_lt _ | exact asinW_lt _ | decide) (by first | assumption | exact dA_lt _ _ | exact dS_lt _ _ | exact dM_lt _ _ | exact dD_lt _ _ | exact dQ_lt _ | exact absV_lt (by assumption) | exact intW_lt _ | exact smallW_lt _ | exact oddW_lt _ | exact atanW_lt _ | exact asinW_lt _ | decide) _).mono ?_; rintro e wk ⟨rfl, bk⟩; have BL := Lib.hid (BL.out.trans (bk.mono BL.out.size)); clear bk))
      go_ret
      exact ⟨by rw [HE.out]; first | done | rfl, BL.out⟩
    · have hz2 : 1 ≤ z ∧ z ≤ 45 := by omega
      obtain ⟨t, ht⟩ : ∃ t, 23 - k = t + 1 := ⟨23 - k - 1, by omega⟩
      rw [ht] at hr
      have HZ := Lib.hid hz
      have HT := Lib.hid ht
      have HK := Lib.hid hkn
      have HR := Lib.hid (show rowN (oddF S) 2 t (z - 2) (oddF S p (intW z)) = RR from hr)
      clear hz ht hr hkn
      go_wp2_with (first
        | (go_at_call 81; refine (krInt (by omega) (by omega) _).mono ?_; rintro e wk ⟨rfl, bk⟩; have BL := Lib.hid (BL.out.trans (bk.mono BL.out.size)); clear bk)
        | (go_at_call 39; refine (rM (by first | assumption | exact dA_lt _ _ | exact dS_lt _ _ | exact dM_lt _ _ | exact dD_lt _ _ | exact dQ_lt _ | exact absV_lt (by assumption) | exact intW_lt _ | exact smallW_lt _ | exact oddW_lt _ | exact atanW_lt _ | exact asinW_lt _ | decide) (by first | assumption | exact dA_lt _ _ | exact dS_lt _ _ | exact dM_lt _ _ | exact dD_lt _ _ | exact dQ_lt _ | exact absV_lt (by assumption) | exact intW_lt _ | exact smallW_lt _ | exact oddW_lt _ | exact atanW_lt _ | exact asinW_lt _ | decide) _).mono ?_; rintro e wk ⟨rfl, bk⟩; have BL := Lib.hid (BL.out.trans (bk.mono BL.out.size)); clear bk)
        | (go_at_call 40; refine (rD (by first | assumption | exact dA_lt _ _ | exact dS_lt _ _ | exact dM_lt _ _ | exact dD_lt _ _ | exact dQ_lt _ | exact absV_lt (by assumption) | exact intW_lt _ | exact smallW_lt _ | exact oddW_lt _ | exact atanW_lt _ | exact asinW_lt _ | decide) (by first | assumption | exact dA_lt _ _ | exact dS_lt _ _ | exact dM_lt _ _ | exact dD_lt _ _ | exact dQ_lt _ | exact absV_lt (by assumption) | exact intW_lt _ | exact smallW_lt _ | exact oddW_lt _ | exact atanW_lt _ | exact asinW_lt _ | decide) _).mono ?_; rintro e wk ⟨rfl, bk⟩; have BL := Lib.hid (BL.out.trans (bk.mono BL.out.size)); clear bk)
        | (go_at_call 49; refine (rS (by first | assumption | exact dA_lt _ _ | exact dS_lt _ _ | exact dM_lt _ _ | exact dD_lt _ _ | exact dQ_lt _ | exact absV_lt (by assumption) | exact intW_lt _ | exact smallW_lt _ | exact oddW_lt _ | exact atanW_lt _ | exact asinW_lt _ | decide) (by first | assumption | exact dA_lt _ _ | exact dS_lt _ _ | exact dM_lt _ _ | exact dD_lt _ _ | exact dQ_lt _ | exact absV_lt (by assumption) | exact intW_lt _ | exact smallW_lt _ | exact oddW_lt _ | exact atanW_lt _ | exact asinW_lt _ | decide) _).mono ?_; rintro e wk ⟨rfl, bk⟩; have BL := Lib.hid (BL.out.trans (bk.mono BL.out.size)); clear bk))
      go_roundw
      case rel =>
        refine ⟨k + 1, oddF S p (intW z), z - 2, rfl, by go_num, by have := HZ.out; omega, by have := HK.out; omega, oddF_lt _ _ _, ?_, BL.out⟩
        have := HT.out
        rw [show 23 - (k + 1) = t by omega]
        exact HR.out
      case measure => simp [intOf]; omega

set_option maxRecDepth 100000 in
theorem ksmall1 {a : Nat} (ha : a < 2 ^ 64) (h1 : ltB 4601133428098527026 a = true) (w : World) : Kb 82 #[wd a] w (wd (dA 4605249457297304856 (oddW (dD (dS a 4607182418800017408) (dA a 4607182418800017408))))) := by
  have BL := Lib.hid (Below.refl w.heap.size w)
  go_enter Tryz.func82, Tryz.ntmps82
  go_wp2_with (first
    | (go_at_call 23; refine (knless _ _ _).mono ?_; rintro e wz ⟨rfl, hw1⟩; have hw2 := hw1.symm; clear hw1; subst hw2)
    | (go_at_call 44; refine (kS _ _ _).mono ?_; rintro e wk ⟨rfl, nk, hw⟩; have BL := Lib.hid (show Below w.heap.size w wk by rw [hw]; first | exact BL.out.trans (drew_below _ _ _) | exact (BL.out.trans (drew_below _ _ _)).trans (drew_below _ _ _) | exact (BL.out.alloc BL.out.size _).trans (drew_below _ _ _)); clear hw)
    | (go_at_call 12; refine (kA _ _ _).mono ?_; rintro e wk ⟨rfl, nk, hw⟩; have BL := Lib.hid (show Below w.heap.size w wk by rw [hw]; first | exact BL.out.trans (drew_below _ _ _) | exact (BL.out.trans (drew_below _ _ _)).trans (drew_below _ _ _) | exact (BL.out.alloc BL.out.size _).trans (drew_below _ _ _)); clear hw)
    | (go_at_call 13; refine (kD _ _ _).mono ?_; rintro e wk ⟨rfl, nk, hw⟩; have BL := Lib.hid (show Below w.heap.size w wk by rw [hw]; first | exact BL.out.trans (drew_below _ _ _) | exact (BL.out.trans (drew_below _ _ _)).trans (drew_below _ _ _) | exact (BL.out.alloc BL.out.size _).trans (drew_below _ _ _)); clear hw)
    | (go_at_call 100; refine (kodd (by first | assumption | exact dA_lt _ _ | exact dS_lt _ _ | exact dM_lt _ _ | exact dD_lt _ _ | exact dQ_lt _ | exact absV_lt (by assumption) | exact intW_lt _ | exact smallW_lt _ | exact oddW_lt _ | exact atanW_lt _ | exact asinW_lt _ | decide) _).mono ?_; rintro e wk ⟨rfl, bk⟩; have BL := Lib.hid (BL.out.trans (bk.mono BL.out.size)); clear bk))
  go_ret
  exact ⟨rfl, BL.out⟩

set_option maxRecDepth 100000 in
theorem krsmall1 {a : Nat} (ha : a < 2 ^ 64) (h1 : ltB 4601133428098527026 a = true) (w : World) : Kb 84 #[wd a] w (wd (dA 4605249457297304856 (oddW (dD (dS a 4607182418800017408) (dA a 4607182418800017408))))) := by
  have BL := Lib.hid (Below.refl w.heap.size w)
  go_enter Tryz.func84, Tryz.ntmps84
  go_wp2_with (first
    | (go_at_call 33; refine (krabove (by first | assumption | exact dA_lt _ _ | exact dS_lt _ _ | exact dM_lt _ _ | exact dD_lt _ _ | exact dQ_lt _ | exact absV_lt (by assumption) | exact intW_lt _ | exact smallW_lt _ | exact oddW_lt _ | exact atanW_lt _ | exact asinW_lt _ | decide) (by first | assumption | exact dA_lt _ _ | exact dS_lt _ _ | exact dM_lt _ _ | exact dD_lt _ _ | exact dQ_lt _ | exact absV_lt (by assumption) | exact intW_lt _ | exact smallW_lt _ | exact oddW_lt _ | exact atanW_lt _ | exact asinW_lt _ | decide) _).mono ?_; rintro e wk ⟨rfl, bk⟩; have BL := Lib.hid (BL.out.trans (bk.mono BL.out.size)); clear bk)
    | (go_at_call 49; refine (rS (by first | assumption | exact dA_lt _ _ | exact dS_lt _ _ | exact dM_lt _ _ | exact dD_lt _ _ | exact dQ_lt _ | exact absV_lt (by assumption) | exact intW_lt _ | exact smallW_lt _ | exact oddW_lt _ | exact atanW_lt _ | exact asinW_lt _ | decide) (by first | assumption | exact dA_lt _ _ | exact dS_lt _ _ | exact dM_lt _ _ | exact dD_lt _ _ | exact dQ_lt _ | exact absV_lt (by assumption) | exact intW_lt _ | exact smallW_lt _ | exact oddW_lt _ | exact atanW_lt _ | exact asinW_lt _ | decide) _).mono ?_; rintro e wk ⟨rfl, bk⟩; have BL := Lib.hid (BL.out.trans (bk.mono BL.out.size)); clear bk)
    | (go_at_call 48; refine (rA (by first | assumption | exact dA_lt _ _ | exact dS_lt _ _ | exact dM_lt _ _ | exact dD_lt _ _ | exact dQ_lt _ | exact absV_lt (by assumption) | exact intW_lt _ | exact smallW_lt _ | exact oddW_lt _ | exact atanW_lt _ | exact asinW_lt _ | decide) (by first | assumption | exact dA_lt _ _ | exact dS_lt _ _ | exact dM_lt _ _ | exact dD_lt _ _ | exact dQ_lt _ | exact absV_lt (by assumption) | exact intW_lt _ | exact smallW_lt _ | exact oddW_lt _ | exact atanW_lt _ | exact asinW_lt _ | decide) _).mono ?_; rintro e wk ⟨rfl, bk⟩; have BL := Lib.hid (BL.out.trans (bk.mono BL.out.size)); clear bk)
    | (go_at_call 40; refine (rD (by first | assumption | exact dA_lt _ _ | exact dS_lt _ _ | exact dM_lt _ _ | exact dD_lt _ _ | exact dQ_lt _ | exact absV_lt (by assumption) | exact intW_lt _ | exact smallW_lt _ | exact oddW_lt _ | exact atanW_lt _ | exact asinW_lt _ | decide) (by first | assumption | exact dA_lt _ _ | exact dS_lt _ _ | exact dM_lt _ _ | exact dD_lt _ _ | exact dQ_lt _ | exact absV_lt (by assumption) | exact intW_lt _ | exact smallW_lt _ | exact oddW_lt _ | exact atanW_lt _ | exact asinW_lt _ | decide) _).mono ?_; rintro e wk ⟨rfl, bk⟩; have BL := Lib.hid (BL.out.trans (bk.mono BL.out.size)); clear bk)
    | (go_at_call 101; refine (krodd (by first | assumption | exact dA_lt _ _ | exact dS_lt _ _ | exact dM_lt _ _ | exact dD_lt _ _ | exact dQ_lt _ | exact absV_lt (by assumption) | exact intW_lt _ | exact smallW_lt _ | exact oddW_lt _ | exact atanW_lt _ | exact asinW_lt _ | decide) _).mono ?_; rintro e wk ⟨rfl, bk⟩; have BL := Lib.hid (BL.out.trans (bk.mono BL.out.size)); clear bk))
  go_ret
  exact ⟨rfl, BL.out⟩

set_option maxRecDepth 100000 in
theorem ksmall2 {a : Nat} (ha : a < 2 ^ 64) (h1 : ltB 4601133428098527026 a = false) (w : World) : Kb 82 #[wd a] w (wd (oddW a)) := by
  have BL := Lib.hid (Below.refl w.heap.size w)
  go_enter Tryz.func82, Tryz.ntmps82
  go_wp2_with (first
    | (go_at_call 23; refine (knless _ _ _).mono ?_; rintro e wz ⟨rfl, hw1⟩; have hw2 := hw1.symm; clear hw1; subst hw2)
    | (go_at_call 44; refine (kS _ _ _).mono ?_; rintro e wk ⟨rfl, nk, hw⟩; have BL := Lib.hid (show Below w.heap.size w wk by rw [hw]; first | exact BL.out.trans (drew_below _ _ _) | exact (BL.out.trans (drew_below _ _ _)).trans (drew_below _ _ _) | exact (BL.out.alloc BL.out.size _).trans (drew_below _ _ _)); clear hw)
    | (go_at_call 12; refine (kA _ _ _).mono ?_; rintro e wk ⟨rfl, nk, hw⟩; have BL := Lib.hid (show Below w.heap.size w wk by rw [hw]; first | exact BL.out.trans (drew_below _ _ _) | exact (BL.out.trans (drew_below _ _ _)).trans (drew_below _ _ _) | exact (BL.out.alloc BL.out.size _).trans (drew_below _ _ _)); clear hw)
    | (go_at_call 13; refine (kD _ _ _).mono ?_; rintro e wk ⟨rfl, nk, hw⟩; have BL := Lib.hid (show Below w.heap.size w wk by rw [hw]; first | exact BL.out.trans (drew_below _ _ _) | exact (BL.out.trans (drew_below _ _ _)).trans (drew_below _ _ _) | exact (BL.out.alloc BL.out.size _).trans (drew_below _ _ _)); clear hw)
    | (go_at_call 100; refine (kodd (by first | assumption | exact dA_lt _ _ | exact dS_lt _ _ | exact dM_lt _ _ | exact dD_lt _ _ | exact dQ_lt _ | exact absV_lt (by assumption) | exact intW_lt _ | exact smallW_lt _ | exact oddW_lt _ | exact atanW_lt _ | exact asinW_lt _ | decide) _).mono ?_; rintro e wk ⟨rfl, bk⟩; have BL := Lib.hid (BL.out.trans (bk.mono BL.out.size)); clear bk))
  go_ret
  exact ⟨rfl, BL.out⟩

set_option maxRecDepth 100000 in
theorem krsmall2 {a : Nat} (ha : a < 2 ^ 64) (h1 : ltB 4601133428098527026 a = false) (w : World) : Kb 84 #[wd a] w (wd (oddW a)) := by
  have BL := Lib.hid (Below.refl w.heap.size w)
  go_enter Tryz.func84, Tryz.ntmps84
  go_wp2_with (first
    | (go_at_call 33; refine (krabove (by first | assumption | exact dA_lt _ _ | exact dS_lt _ _ | exact dM_lt _ _ | exact dD_lt _ _ | exact dQ_lt _ | exact absV_lt (by assumption) | exact intW_lt _ | exact smallW_lt _ | exact oddW_lt _ | exact atanW_lt _ | exact asinW_lt _ | decide) (by first | assumption | exact dA_lt _ _ | exact dS_lt _ _ | exact dM_lt _ _ | exact dD_lt _ _ | exact dQ_lt _ | exact absV_lt (by assumption) | exact intW_lt _ | exact smallW_lt _ | exact oddW_lt _ | exact atanW_lt _ | exact asinW_lt _ | decide) _).mono ?_; rintro e wk ⟨rfl, bk⟩; have BL := Lib.hid (BL.out.trans (bk.mono BL.out.size)); clear bk)
    | (go_at_call 49; refine (rS (by first | assumption | exact dA_lt _ _ | exact dS_lt _ _ | exact dM_lt _ _ | exact dD_lt _ _ | exact dQ_lt _ | exact absV_lt (by assumption) | exact intW_lt _ | exact smallW_lt _ | exact oddW_lt _ | exact atanW_lt _ | exact asinW_lt _ | decide) (by first | assumption | exact dA_lt _ _ | exact dS_lt _ _ | exact dM_lt _ _ | exact dD_lt _ _ | exact dQ_lt _ | exact absV_lt (by assumption) | exact intW_lt _ | exact smallW_lt _ | exact oddW_lt _ | exact atanW_lt _ | exact asinW_lt _ | decide) _).mono ?_; rintro e wk ⟨rfl, bk⟩; have BL := Lib.hid (BL.out.trans (bk.mono BL.out.size)); clear bk)
    | (go_at_call 48; refine (rA (by first | assumption | exact dA_lt _ _ | exact dS_lt _ _ | exact dM_lt _ _ | exact dD_lt _ _ | exact dQ_lt _ | exact absV_lt (by assumption) | exact intW_lt _ | exact smallW_lt _ | exact oddW_lt _ | exact atanW_lt _ | exact asinW_lt _ | decide) (by first | assumption | exact dA_lt _ _ | exact dS_lt _ _ | exact dM_lt _ _ | exact dD_lt _ _ | exact dQ_lt _ | exact absV_lt (by assumption) | exact intW_lt _ | exact smallW_lt _ | exact oddW_lt _ | exact atanW_lt _ | exact asinW_lt _ | decide) _).mono ?_; rintro e wk ⟨rfl, bk⟩; have BL := Lib.hid (BL.out.trans (bk.mono BL.out.size)); clear bk)
    | (go_at_call 40; refine (rD (by first | assumption | exact dA_lt _ _ | exact dS_lt _ _ | exact dM_lt _ _ | exact dD_lt _ _ | exact dQ_lt _ | exact absV_lt (by assumption) | exact intW_lt _ | exact smallW_lt _ | exact oddW_lt _ | exact atanW_lt _ | exact asinW_lt _ | decide) (by first | assumption | exact dA_lt _ _ | exact dS_lt _ _ | exact dM_lt _ _ | exact dD_lt _ _ | exact dQ_lt _ | exact absV_lt (by assumption) | exact intW_lt _ | exact smallW_lt _ | exact oddW_lt _ | exact atanW_lt _ | exact asinW_lt _ | decide) _).mono ?_; rintro e wk ⟨rfl, bk⟩; have BL := Lib.hid (BL.out.trans (bk.mono BL.out.size)); clear bk)
    | (go_at_call 101; refine (krodd (by first | assumption | exact dA_lt _ _ | exact dS_lt _ _ | exact dM_lt _ _ | exact dD_lt _ _ | exact dQ_lt _ | exact absV_lt (by assumption) | exact intW_lt _ | exact smallW_lt _ | exact oddW_lt _ | exact atanW_lt _ | exact asinW_lt _ | decide) _).mono ?_; rintro e wk ⟨rfl, bk⟩; have BL := Lib.hid (BL.out.trans (bk.mono BL.out.size)); clear bk))
  go_ret
  exact ⟨rfl, BL.out⟩

theorem ksmall {a : Nat} (ha : a < 2 ^ 64) (w : World) : Kb 82 #[wd a] w (wd (smallW a)) := by
  unfold smallW
  cases h1 : ltB 4601133428098527026 a
  · rw [if_neg (by decide)]; exact ksmall2 ha h1 w
  · rw [if_pos rfl]; exact ksmall1 ha h1 w

theorem krsmall {a : Nat} (ha : a < 2 ^ 64) (w : World) : Kb 84 #[wd a] w (wd (smallW a)) := by
  unfold smallW
  cases h1 : ltB 4601133428098527026 a
  · rw [if_neg (by decide)]; exact krsmall2 ha h1 w
  · rw [if_pos rfl]; exact krsmall1 ha h1 w

set_option maxRecDepth 100000 in
theorem katan1 {a : Nat} (ha : a < 2 ^ 64) (na : nanW a = true) (w : World) : Kb 43 #[wd a] w (wd (theNaN)) := by
  have BL := Lib.hid (Below.refl w.heap.size w)
  go_enter Tryz.func43, Tryz.ntmps43
  go_wp2_with (first
    | (go_at_call 16; refine (kisnan _ _).mono ?_; rintro e wz ⟨rfl, hw1⟩; have hw2 := hw1.symm; clear hw1; subst hw2))
  go_ret
  exact ⟨rfl, BL.out⟩

set_option maxRecDepth 100000 in
theorem kratan1 {a : Nat} (ha : a < 2 ^ 64) (na : nanW a = true) (w : World) : Kb 46 #[wd a] w (wd (theNaN)) := by
  have BL := Lib.hid (Below.refl w.heap.size w)
  go_enter Tryz.func46, Tryz.ntmps46
  go_wp2_with (first
    | (go_at_call 30; refine (krNaN (by first | assumption | exact dA_lt _ _ | exact dS_lt _ _ | exact dM_lt _ _ | exact dD_lt _ _ | exact dQ_lt _ | exact absV_lt (by assumption) | exact intW_lt _ | exact smallW_lt _ | exact oddW_lt _ | exact atanW_lt _ | exact asinW_lt _ | decide) _).mono ?_; rintro e wz ⟨rfl, hw1⟩; have hw2 := hw1.symm; clear hw1; subst hw2))
  go_ret
  exact ⟨rfl, BL.out⟩

set_option maxRecDepth 100000 in
theorem katan2 {a : Nat} (ha : a < 2 ^ 64) (na : nanW a = false) (h1 : ltB 4607182418800017408 (absV a) = true) (w : World) : Kb 43 #[wd a] w (wd (sgnd (dS 4609753056924675352 (smallW (dD 4607182418800017408 (absV a)))) a)) := by
  have BL := Lib.hid (Below.refl w.heap.size w)
  go_enter Tryz.func43, Tryz.ntmps43
  go_wp2_with (first
    | (go_at_call 16; refine (kisnan _ _).mono ?_; rintro e wz ⟨rfl, hw1⟩; have hw2 := hw1.symm; clear hw1; subst hw2)
    | (go_at_call 20; refine (kabs (by first | assumption | exact dA_lt _ _ | exact dS_lt _ _ | exact dM_lt _ _ | exact dD_lt _ _ | exact dQ_lt _ | exact absV_lt (by assumption) | exact intW_lt _ | exact smallW_lt _ | exact oddW_lt _ | exact atanW_lt _ | exact asinW_lt _ | decide) _).mono ?_; rintro e wz ⟨rfl, hw1⟩; have hw2 := hw1.symm; clear hw1; subst hw2)
    | (go_at_call 23; refine (knless _ _ _).mono ?_; rintro e wz ⟨rfl, hw1⟩; have hw2 := hw1.symm; clear hw1; subst hw2)
    | (go_at_call 13; refine (kD _ _ _).mono ?_; rintro e wk ⟨rfl, nk, hw⟩; have BL := Lib.hid (show Below w.heap.size w wk by rw [hw]; first | exact BL.out.trans (drew_below _ _ _) | exact (BL.out.trans (drew_below _ _ _)).trans (drew_below _ _ _) | exact (BL.out.alloc BL.out.size _).trans (drew_below _ _ _)); clear hw)
    | (go_at_call 44; refine (kS _ _ _).mono ?_; rintro e wk ⟨rfl, nk, hw⟩; have BL := Lib.hid (show Below w.heap.size w wk by rw [hw]; first | exact BL.out.trans (drew_below _ _ _) | exact (BL.out.trans (drew_below _ _ _)).trans (drew_below _ _ _) | exact (BL.out.alloc BL.out.size _).trans (drew_below _ _ _)); clear hw)
    | (go_at_call 45; refine (ksigned (by first | assumption | exact dA_lt _ _ | exact dS_lt _ _ | exact dM_lt _ _ | exact dD_lt _ _ | exact dQ_lt _ | exact absV_lt (by assumption) | exact intW_lt _ | exact smallW_lt _ | exact oddW_lt _ | exact atanW_lt _ | exact asinW_lt _ | decide) (by first | assumption | exact dA_lt _ _ | exact dS_lt _ _ | exact dM_lt _ _ | exact dD_lt _ _ | exact dQ_lt _ | exact absV_lt (by assumption) | exact intW_lt _ | exact smallW_lt _ | exact oddW_lt _ | exact atanW_lt _ | exact asinW_lt _ | decide) _).mono ?_; rintro e wz ⟨rfl, hw1⟩; have hw2 := hw1.symm; clear hw1; subst hw2)
    | (go_at_call 82; refine (ksmall (by first | assumption | exact dA_lt _ _ | exact dS_lt _ _ | exact dM_lt _ _ | exact dD_lt _ _ | exact dQ_lt _ | exact absV_lt (by assumption) | exact intW_lt _ | exact smallW_lt _ | exact oddW_lt _ | exact atanW_lt _ | exact asinW_lt _ | decide) _).mono ?_; rintro e wk ⟨rfl, bk⟩; have BL := Lib.hid (BL.out.trans (bk.mono BL.out.size)); clear bk))
  go_ret
  exact ⟨rfl, BL.out⟩

set_option maxRecDepth 100000 in
theorem kratan2 {a : Nat} (ha : a < 2 ^ 64) (na : nanW a = false) (h1 : ltB 4607182418800017408 (absV a) = true) (w : World) : Kb 46 #[wd a] w (wd (sgnd (dS 4609753056924675352 (smallW (dD 4607182418800017408 (absV a)))) a)) := by
  have BL := Lib.hid (Below.refl w.heap.size w)
  go_enter Tryz.func46, Tryz.ntmps46
  go_wp2_with (first
    | (go_at_call 30; refine (krNaN (by first | assumption | exact dA_lt _ _ | exact dS_lt _ _ | exact dM_lt _ _ | exact dD_lt _ _ | exact dQ_lt _ | exact absV_lt (by assumption) | exact intW_lt _ | exact smallW_lt _ | exact oddW_lt _ | exact atanW_lt _ | exact asinW_lt _ | decide) _).mono ?_; rintro e wz ⟨rfl, hw1⟩; have hw2 := hw1.symm; clear hw1; subst hw2)
    | (go_at_call 34; refine (krabs (by first | assumption | exact dA_lt _ _ | exact dS_lt _ _ | exact dM_lt _ _ | exact dD_lt _ _ | exact dQ_lt _ | exact absV_lt (by assumption) | exact intW_lt _ | exact smallW_lt _ | exact oddW_lt _ | exact atanW_lt _ | exact asinW_lt _ | decide) _).mono ?_; rintro e wz ⟨rfl, hw1⟩; have hw2 := hw1.symm; clear hw1; subst hw2)
    | (go_at_call 33; refine (krabove (by first | assumption | exact dA_lt _ _ | exact dS_lt _ _ | exact dM_lt _ _ | exact dD_lt _ _ | exact dQ_lt _ | exact absV_lt (by assumption) | exact intW_lt _ | exact smallW_lt _ | exact oddW_lt _ | exact atanW_lt _ | exact asinW_lt _ | decide) (by first | assumption | exact dA_lt _ _ | exact dS_lt _ _ | exact dM_lt _ _ | exact dD_lt _ _ | exact dQ_lt _ | exact absV_lt (by assumption) | exact intW_lt _ | exact smallW_lt _ | exact oddW_lt _ | exact atanW_lt _ | exact asinW_lt _ | decide) _).mono ?_; rintro e wk ⟨rfl, bk⟩; have BL := Lib.hid (BL.out.trans (bk.mono BL.out.size)); clear bk)
    | (go_at_call 40; refine (rD (by first | assumption | exact dA_lt _ _ | exact dS_lt _ _ | exact dM_lt _ _ | exact dD_lt _ _ | exact dQ_lt _ | exact absV_lt (by assumption) | exact intW_lt _ | exact smallW_lt _ | exact oddW_lt _ | exact atanW_lt _ | exact asinW_lt _ | decide) (by first | assumption | exact dA_lt _ _ | exact dS_lt _ _ | exact dM_lt _ _ | exact dD_lt _ _ | exact dQ_lt _ | exact absV_lt (by assumption) | exact intW_lt _ | exact smallW_lt _ | exact oddW_lt _ | exact atanW_lt _ | exact asinW_lt _ | decide) _).mono ?_; rintro e wk ⟨rfl, bk⟩; have BL := Lib.hid (BL.out.trans (bk.mono BL.out.size)); clear bk)
    | (go_at_call 49; refine (rS (by first | assumption | exact dA_lt _ _ | exact dS_lt _ _ | exact dM_lt _ _ | exact dD_lt _ _ | exact dQ_lt _ | exact absV_lt (by assumption) | exact intW_lt _ | exact smallW_lt _ | exact oddW_lt _ | exact atanW_lt _ | exact asinW_lt _ | decide) (by first | assumption | exact dA_lt _ _ | exact dS_lt _ _ | exact dM_lt _ _ | exact dD_lt _ _ | exact dQ_lt _ | exact absV_lt (by assumption) | exact intW_lt _ | exact smallW_lt _ | exact oddW_lt _ | exact atanW_lt _ | exact asinW_lt _ | decide) _).mono ?_; rintro e wk ⟨rfl, bk⟩; have BL := Lib.hid (BL.out.trans (bk.mono BL.out.size)); clear bk)
    | (go_at_call 51; refine (krsigned (by first | assumption | exact dA_lt _ _ | exact dS_lt _ _ | exact dM_lt _ _ | exact dD_lt _ _ | exact dQ_lt _ | exact absV_lt (by assumption) | exact intW_lt _ | exact smallW_lt _ | exact oddW_lt _ | exact atanW_lt _ | exact asinW_lt _ | decide) (by first | assumption | exact dA_lt _ _ | exact dS_lt _ _ | exact dM_lt _ _ | exact dD_lt _ _ | exact dQ_lt _ | exact absV_lt (by assumption) | exact intW_lt _ | exact smallW_lt _ | exact oddW_lt _ | exact atanW_lt _ | exact asinW_lt _ | decide) _).mono ?_; rintro e wz ⟨rfl, hw1⟩; have hw2 := hw1.symm; clear hw1; subst hw2)
    | (go_at_call 84; refine (krsmall (by first | assumption | exact dA_lt _ _ | exact dS_lt _ _ | exact dM_lt _ _ | exact dD_lt _ _ | exact dQ_lt _ | exact absV_lt (by assumption) | exact intW_lt _ | exact smallW_lt _ | exact oddW_lt _ | exact atanW_lt _ | exact asinW_lt _ | decide) _).mono ?_; rintro e wk ⟨rfl, bk⟩; have BL := Lib.hid (BL.out.trans (bk.mono BL.out.size)); clear bk))
  go_ret
  exact ⟨rfl, BL.out⟩

set_option maxRecDepth 100000 in
theorem katan3 {a : Nat} (ha : a < 2 ^ 64) (na : nanW a = false) (h1 : ltB 4607182418800017408 (absV a) = false) (w : World) : Kb 43 #[wd a] w (wd (sgnd (smallW (absV a)) a)) := by
  have BL := Lib.hid (Below.refl w.heap.size w)
  go_enter Tryz.func43, Tryz.ntmps43
  go_wp2_with (first
    | (go_at_call 16; refine (kisnan _ _).mono ?_; rintro e wz ⟨rfl, hw1⟩; have hw2 := hw1.symm; clear hw1; subst hw2)
    | (go_at_call 20; refine (kabs (by first | assumption | exact dA_lt _ _ | exact dS_lt _ _ | exact dM_lt _ _ | exact dD_lt _ _ | exact dQ_lt _ | exact absV_lt (by assumption) | exact intW_lt _ | exact smallW_lt _ | exact oddW_lt _ | exact atanW_lt _ | exact asinW_lt _ | decide) _).mono ?_; rintro e wz ⟨rfl, hw1⟩; have hw2 := hw1.symm; clear hw1; subst hw2)
    | (go_at_call 23; refine (knless _ _ _).mono ?_; rintro e wz ⟨rfl, hw1⟩; have hw2 := hw1.symm; clear hw1; subst hw2)
    | (go_at_call 13; refine (kD _ _ _).mono ?_; rintro e wk ⟨rfl, nk, hw⟩; have BL := Lib.hid (show Below w.heap.size w wk by rw [hw]; first | exact BL.out.trans (drew_below _ _ _) | exact (BL.out.trans (drew_below _ _ _)).trans (drew_below _ _ _) | exact (BL.out.alloc BL.out.size _).trans (drew_below _ _ _)); clear hw)
    | (go_at_call 44; refine (kS _ _ _).mono ?_; rintro e wk ⟨rfl, nk, hw⟩; have BL := Lib.hid (show Below w.heap.size w wk by rw [hw]; first | exact BL.out.trans (drew_below _ _ _) | exact (BL.out.trans (drew_below _ _ _)).trans (drew_below _ _ _) | exact (BL.out.alloc BL.out.size _).trans (drew_below _ _ _)); clear hw)
    | (go_at_call 45; refine (ksigned (by first | assumption | exact dA_lt _ _ | exact dS_lt _ _ | exact dM_lt _ _ | exact dD_lt _ _ | exact dQ_lt _ | exact absV_lt (by assumption) | exact intW_lt _ | exact smallW_lt _ | exact oddW_lt _ | exact atanW_lt _ | exact asinW_lt _ | decide) (by first | assumption | exact dA_lt _ _ | exact dS_lt _ _ | exact dM_lt _ _ | exact dD_lt _ _ | exact dQ_lt _ | exact absV_lt (by assumption) | exact intW_lt _ | exact smallW_lt _ | exact oddW_lt _ | exact atanW_lt _ | exact asinW_lt _ | decide) _).mono ?_; rintro e wz ⟨rfl, hw1⟩; have hw2 := hw1.symm; clear hw1; subst hw2)
    | (go_at_call 82; refine (ksmall (by first | assumption | exact dA_lt _ _ | exact dS_lt _ _ | exact dM_lt _ _ | exact dD_lt _ _ | exact dQ_lt _ | exact absV_lt (by assumption) | exact intW_lt _ | exact smallW_lt _ | exact oddW_lt _ | exact atanW_lt _ | exact asinW_lt _ | decide) _).mono ?_; rintro e wk ⟨rfl, bk⟩; have BL := Lib.hid (BL.out.trans (bk.mono BL.out.size)); clear bk))
  go_ret
  exact ⟨rfl, BL.out⟩

set_option maxRecDepth 100000 in
theorem kratan3 {a : Nat} (ha : a < 2 ^ 64) (na : nanW a = false) (h1 : ltB 4607182418800017408 (absV a) = false) (w : World) : Kb 46 #[wd a] w (wd (sgnd (smallW (absV a)) a)) := by
  have BL := Lib.hid (Below.refl w.heap.size w)
  go_enter Tryz.func46, Tryz.ntmps46
  go_wp2_with (first
    | (go_at_call 30; refine (krNaN (by first | assumption | exact dA_lt _ _ | exact dS_lt _ _ | exact dM_lt _ _ | exact dD_lt _ _ | exact dQ_lt _ | exact absV_lt (by assumption) | exact intW_lt _ | exact smallW_lt _ | exact oddW_lt _ | exact atanW_lt _ | exact asinW_lt _ | decide) _).mono ?_; rintro e wz ⟨rfl, hw1⟩; have hw2 := hw1.symm; clear hw1; subst hw2)
    | (go_at_call 34; refine (krabs (by first | assumption | exact dA_lt _ _ | exact dS_lt _ _ | exact dM_lt _ _ | exact dD_lt _ _ | exact dQ_lt _ | exact absV_lt (by assumption) | exact intW_lt _ | exact smallW_lt _ | exact oddW_lt _ | exact atanW_lt _ | exact asinW_lt _ | decide) _).mono ?_; rintro e wz ⟨rfl, hw1⟩; have hw2 := hw1.symm; clear hw1; subst hw2)
    | (go_at_call 33; refine (krabove (by first | assumption | exact dA_lt _ _ | exact dS_lt _ _ | exact dM_lt _ _ | exact dD_lt _ _ | exact dQ_lt _ | exact absV_lt (by assumption) | exact intW_lt _ | exact smallW_lt _ | exact oddW_lt _ | exact atanW_lt _ | exact asinW_lt _ | decide) (by first | assumption | exact dA_lt _ _ | exact dS_lt _ _ | exact dM_lt _ _ | exact dD_lt _ _ | exact dQ_lt _ | exact absV_lt (by assumption) | exact intW_lt _ | exact smallW_lt _ | exact oddW_lt _ | exact atanW_lt _ | exact asinW_lt _ | decide) _).mono ?_; rintro e wk ⟨rfl, bk⟩; have BL := Lib.hid (BL.out.trans (bk.mono BL.out.size)); clear bk)
    | (go_at_call 40; refine (rD (by first | assumption | exact dA_lt _ _ | exact dS_lt _ _ | exact dM_lt _ _ | exact dD_lt _ _ | exact dQ_lt _ | exact absV_lt (by assumption) | exact intW_lt _ | exact smallW_lt _ | exact oddW_lt _ | exact atanW_lt _ | exact asinW_lt _ | decide) (by first | assumption | exact dA_lt _ _ | exact dS_lt _ _ | exact dM_lt _ _ | exact dD_lt _ _ | exact dQ_lt _ | exact absV_lt (by assumption) | exact intW_lt _ | exact smallW_lt _ | exact oddW_lt _ | exact atanW_lt _ | exact asinW_lt _ | decide) _).mono ?_; rintro e wk ⟨rfl, bk⟩; have BL := Lib.hid (BL.out.trans (bk.mono BL.out.size)); clear bk)
    | (go_at_call 49; refine (rS (by first | assumption | exact dA_lt _ _ | exact dS_lt _ _ | exact dM_lt _ _ | exact dD_lt _ _ | exact dQ_lt _ | exact absV_lt (by assumption) | exact intW_lt _ | exact smallW_lt _ | exact oddW_lt _ | exact atanW_lt _ | exact asinW_lt _ | decide) (by first | assumption | exact dA_lt _ _ | exact dS_lt _ _ | exact dM_lt _ _ | exact dD_lt _ _ | exact dQ_lt _ | exact absV_lt (by assumption) | exact intW_lt _ | exact smallW_lt _ | exact oddW_lt _ | exact atanW_lt _ | exact asinW_lt _ | decide) _).mono ?_; rintro e wk ⟨rfl, bk⟩; have BL := Lib.hid (BL.out.trans (bk.mono BL.out.size)); clear bk)
    | (go_at_call 51; refine (krsigned (by first | assumption | exact dA_lt _ _ | exact dS_lt _ _ | exact dM_lt _ _ | exact dD_lt _ _ | exact dQ_lt _ | exact absV_lt (by assumption) | exact intW_lt _ | exact smallW_lt _ | exact oddW_lt _ | exact atanW_lt _ | exact asinW_lt _ | decide) (by first | assumption | exact dA_lt _ _ | exact dS_lt _ _ | exact dM_lt _ _ | exact dD_lt _ _ | exact dQ_lt _ | exact absV_lt (by assumption) | exact intW_lt _ | exact smallW_lt _ | exact oddW_lt _ | exact atanW_lt _ | exact asinW_lt _ | decide) _).mono ?_; rintro e wz ⟨rfl, hw1⟩; have hw2 := hw1.symm; clear hw1; subst hw2)
    | (go_at_call 84; refine (krsmall (by first | assumption | exact dA_lt _ _ | exact dS_lt _ _ | exact dM_lt _ _ | exact dD_lt _ _ | exact dQ_lt _ | exact absV_lt (by assumption) | exact intW_lt _ | exact smallW_lt _ | exact oddW_lt _ | exact atanW_lt _ | exact asinW_lt _ | decide) _).mono ?_; rintro e wk ⟨rfl, bk⟩; have BL := Lib.hid (BL.out.trans (bk.mono BL.out.size)); clear bk))
  go_ret
  exact ⟨rfl, BL.out⟩

theorem katan {a : Nat} (ha : a < 2 ^ 64) (w : World) : Kb 43 #[wd a] w (wd (atanW a)) := by
  unfold atanW
  cases na : nanW a
  · rw [if_neg (by decide)]
    cases h1 : ltB 4607182418800017408 (absV a)
    · rw [if_neg (by decide)]; exact katan3 ha na h1 w
    · rw [if_pos rfl]; exact katan2 ha na h1 w
  · rw [if_pos rfl]; exact katan1 ha na w

theorem kratan {a : Nat} (ha : a < 2 ^ 64) (w : World) : Kb 46 #[wd a] w (wd (atanW a)) := by
  unfold atanW
  cases na : nanW a
  · rw [if_neg (by decide)]
    cases h1 : ltB 4607182418800017408 (absV a)
    · rw [if_neg (by decide)]; exact kratan3 ha na h1 w
    · rw [if_pos rfl]; exact kratan2 ha na h1 w
  · rw [if_pos rfl]; exact kratan1 ha na w

end Go.Proofs.YtoodbdjmbicaeaaGreatDoor
