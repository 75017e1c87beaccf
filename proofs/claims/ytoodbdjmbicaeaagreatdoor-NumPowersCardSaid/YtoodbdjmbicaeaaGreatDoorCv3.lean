/- The exponential, of both texts. No condition. -/
import Derived.Test.YtoodbdjmbicaeaaGreatDoorCv2
import Derived.Test.YtoodbdjmbicaeaaGreatDoorCv0
namespace Go.Proofs.YtoodbdjmbicaeaaGreatDoor
open Go.RowKit
set_option maxRecDepth 20000
set_option maxHeartbeats 2000000
set_option linter.unusedVariables false
set_option linter.unusedSimpArgs false

def expK (a : Nat) : Nat := flW (dA (dM a 4609176140021203710) 4602678819172646912)
def expR (a : Nat) : Nat := dS (dS a (dM (expK a) 4604418534311723008)) (dM (expK a) 4461442080421002358)
def expN (a : Nat) : Int := wholeN (expK a)
def expB (a : Nat) : Nat := dM (dM (rowN (expF (expR a)) 1 13 13 4607182418800017408) (powW ((expN a).tdiv 2))) (powW (expN a - (expN a).tdiv 2))
def expW (a : Nat) : Nat := if nanW a then theNaN else if ltB 4649454530587146735 a then 9218868437227405312 else if ltB a 13873137513782915154 then 0 else expB a
theorem expW_lt (a : Nat) : expW a < 2 ^ 64 := by
  unfold expW
  split
  · exact theNaN_lt
  · split
    · decide
    · split
      · decide
      · exact dM_lt _ _
theorem expF_lt (r p i : Nat) : expF r p i < 2 ^ 64 := dA_lt _ _
/-- Of what is neither too great nor too little k is not far from nought. -/
theorem expN_le {a : Nat} (na : nanW a = false) (h1 : ltB 4649454530587146735 a = false) (h2 : ltB a 13873137513782915154 = false) : -5000 ≤ expN a ∧ expN a ≤ 5000 := by
  rw [ltB_cmp, ltB_ival (by decide) na] at h1
  rw [ltB_cmp, ltB_ival na (by decide)] at h2
  have h1 := of_decide_eq_false h1
  have h2 := of_decide_eq_false h2
  refine quot_le ?_ (by decide)
  have e1 : ival 4649454530587146735 = (val (rung 4649454530587146735) : Int) := by unfold ival; rw [if_neg (by decide)]
  have e2 : ival 13873137513782915154 = -(val (rung 13873137513782915154) : Int) := by unfold ival; rw [if_pos (by decide)]
  have v1 : val (rung 4649454530587146735) ≤ val (1032 * 2 ^ 52 + 2 ^ 52) := val_le (by decide)
  have v2 : val (rung 13873137513782915154) ≤ val (1032 * 2 ^ 52 + 2 ^ 52) := val_le (by decide)
  obtain ⟨V, hV⟩ : ∃ V, val (1032 * 2 ^ 52 + 2 ^ 52) = V := ⟨_, rfl⟩
  have hn := natAbs_ival a
  refine Nat.le_of_not_lt fun hlt => ?_
  have v3 := val_lt hlt
  rw [hV] at v1 v2 v3
  rw [e1] at h1
  rw [e2] at h2
  omega
theorem tdiv_le {n : Int} (h : -5000 ≤ n ∧ n ≤ 5000) : -5000 ≤ n.tdiv 2 ∧ n.tdiv 2 ≤ 5000 ∧ -5000 ≤ n - n.tdiv 2 ∧ n - n.tdiv 2 ≤ 5000 := by
  have h1 := Int.tdiv_eq_ediv (a := n) (b := 2)
  have h2 : (if 0 ≤ n ∨ (2 : Int) ∣ n then (0 : Int) else Int.sign 2) = 0 ∨ (if 0 ≤ n ∨ (2 : Int) ∣ n then (0 : Int) else Int.sign 2) = 1 := by
    split
    · exact .inl rfl
    · exact .inr rfl
  omega

theorem kexp1 {a : Nat} (ha : a < 2 ^ 64) (na : nanW a = true) (w : World) : Kb 26 #[wd a] w (wd theNaN) := by
  have BL := Lib.hid (Below.refl w.heap.size w)
  go_enter Tryz.func26, Tryz.ntmps26
  go_wp2_with (first
    | (go_at_call 16; refine (kisnan _ _).mono ?_; rintro e wz ⟨rfl, hw1⟩; have hw2 := hw1.symm; clear hw1; subst hw2)
    | (go_at_call 23; refine (knless _ _ _).mono ?_; rintro e wz ⟨rfl, hw1⟩; have hw2 := hw1.symm; clear hw1; subst hw2)
    | (go_at_call 25; refine (kinfF _).mono ?_; rintro e wz ⟨rfl, hw1⟩; have hw2 := hw1.symm; clear hw1; subst hw2))
  go_ret
  exact ⟨rfl, BL.out⟩

theorem krexp1 {a : Nat} (ha : a < 2 ^ 64) (na : nanW a = true) (w : World) : Kb 41 #[wd a] w (wd theNaN) := by
  have BL := Lib.hid (Below.refl w.heap.size w)
  go_enter Tryz.func41, Tryz.ntmps41
  go_wp2_with (first
    | (go_at_call 30; refine (krNaN (by first | assumption | exact dA_lt _ _ | exact dS_lt _ _ | exact dM_lt _ _ | exact dD_lt _ _ | exact dQ_lt _ | exact intW_lt _ | exact powW_lt _ | exact flW_lt (dA_lt _ _) | decide) _).mono ?_; rintro e wz ⟨rfl, hw1⟩; have hw2 := hw1.symm; clear hw1; subst hw2)
    | (go_at_call 33; refine (krabove (by first | assumption | exact dA_lt _ _ | exact dS_lt _ _ | exact dM_lt _ _ | exact dD_lt _ _ | exact dQ_lt _ | exact intW_lt _ | exact powW_lt _ | exact flW_lt (dA_lt _ _) | decide) (by first | assumption | exact dA_lt _ _ | exact dS_lt _ _ | exact dM_lt _ _ | exact dD_lt _ _ | exact dQ_lt _ | exact intW_lt _ | exact powW_lt _ | exact flW_lt (dA_lt _ _) | decide) _).mono ?_; rintro e wk ⟨rfl, bk⟩; have BL := Lib.hid (BL.out.trans (bk.mono BL.out.size)); clear bk)
    | (go_at_call 47; refine (krbelow (by first | assumption | exact dA_lt _ _ | exact dS_lt _ _ | exact dM_lt _ _ | exact dD_lt _ _ | exact dQ_lt _ | exact intW_lt _ | exact powW_lt _ | exact flW_lt (dA_lt _ _) | decide) (by first | assumption | exact dA_lt _ _ | exact dS_lt _ _ | exact dM_lt _ _ | exact dD_lt _ _ | exact dQ_lt _ | exact intW_lt _ | exact powW_lt _ | exact flW_lt (dA_lt _ _) | decide) _).mono ?_; rintro e wk ⟨rfl, bk⟩; have BL := Lib.hid (BL.out.trans (bk.mono BL.out.size)); clear bk))
  go_ret
  exact ⟨rfl, BL.out⟩

theorem kexp2 {a : Nat} (ha : a < 2 ^ 64) (na : nanW a = false) (h1 : ltB 4649454530587146735 a = true) (w : World) : Kb 26 #[wd a] w (wd 9218868437227405312) := by
  have BL := Lib.hid (Below.refl w.heap.size w)
  go_enter Tryz.func26, Tryz.ntmps26
  go_wp2_with (first
    | (go_at_call 16; refine (kisnan _ _).mono ?_; rintro e wz ⟨rfl, hw1⟩; have hw2 := hw1.symm; clear hw1; subst hw2)
    | (go_at_call 23; refine (knless _ _ _).mono ?_; rintro e wz ⟨rfl, hw1⟩; have hw2 := hw1.symm; clear hw1; subst hw2)
    | (go_at_call 25; refine (kinfF _).mono ?_; rintro e wz ⟨rfl, hw1⟩; have hw2 := hw1.symm; clear hw1; subst hw2))
  go_ret
  exact ⟨rfl, BL.out⟩

theorem krexp2 {a : Nat} (ha : a < 2 ^ 64) (na : nanW a = false) (h1 : ltB 4649454530587146735 a = true) (w : World) : Kb 41 #[wd a] w (wd 9218868437227405312) := by
  have BL := Lib.hid (Below.refl w.heap.size w)
  go_enter Tryz.func41, Tryz.ntmps41
  go_wp2_with (first
    | (go_at_call 30; refine (krNaN (by first | assumption | exact dA_lt _ _ | exact dS_lt _ _ | exact dM_lt _ _ | exact dD_lt _ _ | exact dQ_lt _ | exact intW_lt _ | exact powW_lt _ | exact flW_lt (dA_lt _ _) | decide) _).mono ?_; rintro e wz ⟨rfl, hw1⟩; have hw2 := hw1.symm; clear hw1; subst hw2)
    | (go_at_call 33; refine (krabove (by first | assumption | exact dA_lt _ _ | exact dS_lt _ _ | exact dM_lt _ _ | exact dD_lt _ _ | exact dQ_lt _ | exact intW_lt _ | exact powW_lt _ | exact flW_lt (dA_lt _ _) | decide) (by first | assumption | exact dA_lt _ _ | exact dS_lt _ _ | exact dM_lt _ _ | exact dD_lt _ _ | exact dQ_lt _ | exact intW_lt _ | exact powW_lt _ | exact flW_lt (dA_lt _ _) | decide) _).mono ?_; rintro e wk ⟨rfl, bk⟩; have BL := Lib.hid (BL.out.trans (bk.mono BL.out.size)); clear bk)
    | (go_at_call 47; refine (krbelow (by first | assumption | exact dA_lt _ _ | exact dS_lt _ _ | exact dM_lt _ _ | exact dD_lt _ _ | exact dQ_lt _ | exact intW_lt _ | exact powW_lt _ | exact flW_lt (dA_lt _ _) | decide) (by first | assumption | exact dA_lt _ _ | exact dS_lt _ _ | exact dM_lt _ _ | exact dD_lt _ _ | exact dQ_lt _ | exact intW_lt _ | exact powW_lt _ | exact flW_lt (dA_lt _ _) | decide) _).mono ?_; rintro e wk ⟨rfl, bk⟩; have BL := Lib.hid (BL.out.trans (bk.mono BL.out.size)); clear bk))
  go_ret
  exact ⟨rfl, BL.out⟩

theorem kexp3 {a : Nat} (ha : a < 2 ^ 64) (na : nanW a = false) (h1 : ltB 4649454530587146735 a = false) (h2 : ltB a 13873137513782915154 = true) (w : World) : Kb 26 #[wd a] w (wd 0) := by
  have BL := Lib.hid (Below.refl w.heap.size w)
  go_enter Tryz.func26, Tryz.ntmps26
  go_wp2_with (first
    | (go_at_call 16; refine (kisnan _ _).mono ?_; rintro e wz ⟨rfl, hw1⟩; have hw2 := hw1.symm; clear hw1; subst hw2)
    | (go_at_call 23; refine (knless _ _ _).mono ?_; rintro e wz ⟨rfl, hw1⟩; have hw2 := hw1.symm; clear hw1; subst hw2)
    | (go_at_call 25; refine (kinfF _).mono ?_; rintro e wz ⟨rfl, hw1⟩; have hw2 := hw1.symm; clear hw1; subst hw2))
  go_ret
  exact ⟨rfl, BL.out⟩

theorem krexp3 {a : Nat} (ha : a < 2 ^ 64) (na : nanW a = false) (h1 : ltB 4649454530587146735 a = false) (h2 : ltB a 13873137513782915154 = true) (w : World) : Kb 41 #[wd a] w (wd 0) := by
  have BL := Lib.hid (Below.refl w.heap.size w)
  go_enter Tryz.func41, Tryz.ntmps41
  go_wp2_with (first
    | (go_at_call 30; refine (krNaN (by first | assumption | exact dA_lt _ _ | exact dS_lt _ _ | exact dM_lt _ _ | exact dD_lt _ _ | exact dQ_lt _ | exact intW_lt _ | exact powW_lt _ | exact flW_lt (dA_lt _ _) | decide) _).mono ?_; rintro e wz ⟨rfl, hw1⟩; have hw2 := hw1.symm; clear hw1; subst hw2)
    | (go_at_call 33; refine (krabove (by first | assumption | exact dA_lt _ _ | exact dS_lt _ _ | exact dM_lt _ _ | exact dD_lt _ _ | exact dQ_lt _ | exact intW_lt _ | exact powW_lt _ | exact flW_lt (dA_lt _ _) | decide) (by first | assumption | exact dA_lt _ _ | exact dS_lt _ _ | exact dM_lt _ _ | exact dD_lt _ _ | exact dQ_lt _ | exact intW_lt _ | exact powW_lt _ | exact flW_lt (dA_lt _ _) | decide) _).mono ?_; rintro e wk ⟨rfl, bk⟩; have BL := Lib.hid (BL.out.trans (bk.mono BL.out.size)); clear bk)
    | (go_at_call 47; refine (krbelow (by first | assumption | exact dA_lt _ _ | exact dS_lt _ _ | exact dM_lt _ _ | exact dD_lt _ _ | exact dQ_lt _ | exact intW_lt _ | exact powW_lt _ | exact flW_lt (dA_lt _ _) | decide) (by first | assumption | exact dA_lt _ _ | exact dS_lt _ _ | exact dM_lt _ _ | exact dD_lt _ _ | exact dQ_lt _ | exact intW_lt _ | exact powW_lt _ | exact flW_lt (dA_lt _ _) | decide) _).mono ?_; rintro e wk ⟨rfl, bk⟩; have BL := Lib.hid (BL.out.trans (bk.mono BL.out.size)); clear bk))
  go_ret
  exact ⟨rfl, BL.out⟩

theorem cell_new (w : World) (v : Value) (t : TypeId) : (w.alloc (.cells #[v] t)).cell? ⟨w.heap.size, 0, none⟩ = some v := by
  rw [cell_of_row _ _ _ _ _ _ (heap_alloc_new w _)]; rfl
theorem cell_newD (w : World) (v : Value) (t : TypeId) (n : Nat) : ((w.alloc (.cells #[v] t)).drewN n).cell? ⟨w.heap.size, 0, none⟩ = some v := cell_new w v t
set_option maxRecDepth 100000 in
theorem kexp4 {a : Nat} (ha : a < 2 ^ 64) (na : nanW a = false) (h1 : ltB 4649454530587146735 a = false) (h2 : ltB a 13873137513782915154 = false) (w : World) : Kb 26 #[wd a] w (wd (expB a)) := by
  obtain ⟨b1, b2⟩ := expN_le na h1 h2
  obtain ⟨b3, b4, b5, b6⟩ := tdiv_le ⟨b1, b2⟩
  obtain ⟨N, hn⟩ : ∃ N, expN a = N := ⟨_, rfl⟩
  rw [hn] at b1 b2 b3 b4 b5 b6
  obtain ⟨H, hh⟩ : ∃ H, N.tdiv 2 = H := ⟨_, rfl⟩
  rw [hh] at b3 b4 b5 b6
  have KW : Hid (∀ w, Kn 9 #[wd (flW (dA (dM a 4609176140021203710) 4602678819172646912))] w (.tuple #[.int .i64 N, .bool (wholeK (expK a))])) := Lib.hid (by
    intro w
    have := kwhole (a := expK a) (flW_lt (dA_lt _ _)) w
    rw [show wholeN (expK a) = N from hn] at this
    exact this)
  have HE : Hid (expB a = dM (dM (rowN (expF (expR a)) 1 13 13 4607182418800017408) (powW H)) (powW (N - H))) := Lib.hid (by unfold expB; rw [hn, hh])
  have BL := Lib.hid (Below.refl w.heap.size w)
  clear hn
  go_enter Tryz.func26, Tryz.ntmps26
  go_wp2_with (first
    | (go_at_call 16; refine (kisnan _ _).mono ?_; rintro e wz ⟨rfl, hw1⟩; have hw2 := hw1.symm; clear hw1; subst hw2)
    | (go_at_call 23; refine (knless _ _ _).mono ?_; rintro e wz ⟨rfl, hw1⟩; have hw2 := hw1.symm; clear hw1; subst hw2)
    | (go_at_call 27; refine (kM _ _ _).mono ?_; rintro e wk ⟨rfl, nk, hw⟩; have BL := Lib.hid (show Below w.heap.size w wk by rw [hw]; first | exact BL.out.trans (drew_below _ _ _) | exact (BL.out.trans (drew_below _ _ _)).trans (drew_below _ _ _) | exact (BL.out.alloc BL.out.size _).trans (drew_below _ _ _)); clear hw)
    | (go_at_call 44; refine (kS _ _ _).mono ?_; rintro e wk ⟨rfl, nk, hw⟩; have BL := Lib.hid (show Below w.heap.size w wk by rw [hw]; first | exact BL.out.trans (drew_below _ _ _) | exact (BL.out.trans (drew_below _ _ _)).trans (drew_below _ _ _) | exact (BL.out.alloc BL.out.size _).trans (drew_below _ _ _)); clear hw)
    | (go_at_call 12; refine (kA _ _ _).mono ?_; rintro e wk ⟨rfl, nk, hw⟩; have BL := Lib.hid (show Below w.heap.size w wk by rw [hw]; first | exact BL.out.trans (drew_below _ _ _) | exact (BL.out.trans (drew_below _ _ _)).trans (drew_below _ _ _) | exact (BL.out.alloc BL.out.size _).trans (drew_below _ _ _)); clear hw)
    | (go_at_call 61; refine (kFl _ _).mono ?_; rintro e wk ⟨rfl, nk, hw⟩; have BL := Lib.hid (show Below w.heap.size w wk by rw [hw]; first | exact BL.out.trans (drew_below _ _ _) | exact (BL.out.trans (drew_below _ _ _)).trans (drew_below _ _ _) | exact (BL.out.alloc BL.out.size _).trans (drew_below _ _ _)); clear hw)
    | (go_at_call 9; refine (KW.out _).mono ?_; rintro e wk ⟨rfl, nk, hw⟩; have BL := Lib.hid (show Below w.heap.size w wk by rw [hw]; first | exact BL.out.trans (drew_below _ _ _) | exact (BL.out.trans (drew_below _ _ _)).trans (drew_below _ _ _) | exact (BL.out.alloc BL.out.size _).trans (drew_below _ _ _)); clear hw)
    | (go_at_call 64; refine (kpower (by omega) _).mono ?_; rintro e wk ⟨rfl, nk, hw⟩; have BL := Lib.hid (show Below w.heap.size w wk by rw [hw]; first | exact BL.out.trans (drew_below _ _ _) | exact (BL.out.trans (drew_below _ _ _)).trans (drew_below _ _ _) | exact (BL.out.alloc BL.out.size _).trans (drew_below _ _ _)); clear hw)
    | (go_at_call 62; refine (krowE (expF _) _ _ _ _ (cell_new _ _ _) (Lib.hid fun p i W hc => kexpF _ p i W _ hc)).mono ?_; rintro e wk ⟨rfl, nk, hw⟩; have BL := Lib.hid (show Below w.heap.size w wk by rw [hw]; first | exact BL.out.trans (drew_below _ _ _) | exact (BL.out.trans (drew_below _ _ _)).trans (drew_below _ _ _) | exact (BL.out.alloc BL.out.size _).trans (drew_below _ _ _)); clear hw))
  go_ret
  exact ⟨by rw [HE.out]; rfl, BL.out⟩

set_option maxRecDepth 100000 in
theorem krexp4 {a : Nat} (ha : a < 2 ^ 64) (na : nanW a = false) (h1 : ltB 4649454530587146735 a = false) (h2 : ltB a 13873137513782915154 = false) (w : World) : Kb 41 #[wd a] w (wd (expB a)) := by
  obtain ⟨b1, b2⟩ := expN_le na h1 h2
  obtain ⟨b3, b4, b5, b6⟩ := tdiv_le ⟨b1, b2⟩
  obtain ⟨N, hn⟩ : ∃ N, expN a = N := ⟨_, rfl⟩
  rw [hn] at b1 b2 b3 b4 b5 b6
  obtain ⟨H, hh⟩ : ∃ H, N.tdiv 2 = H := ⟨_, rfl⟩
  rw [hh] at b3 b4 b5 b6
  obtain ⟨RR, hRR⟩ : ∃ RR, rowN (expF (expR a)) 1 13 13 4607182418800017408 = RR := ⟨_, rfl⟩
  have LR : RR < 2 ^ 64 := by rw [← hRR]; exact rowN_lt (expF_lt _) _ _ _ _ (by decide)
  have KW : Hid (∀ w, Kb 38 #[wd (flW (dA (dM a 4609176140021203710) 4602678819172646912))] w (.tuple #[.int .i64 N, .bool (wholeK (expK a))])) := Lib.hid (by
    intro w
    have := krWhole (a := expK a) (flW_lt (dA_lt _ _)) w
    rw [show wholeN (expK a) = N from hn] at this
    exact this)
  have HE : Hid (expB a = dM (dM RR (powW H)) (powW (N - H))) := Lib.hid (by unfold expB; rw [hn, hh, hRR])
  have HRR := Lib.hid hRR
  have BL := Lib.hid (Below.refl w.heap.size w)
  clear hn hRR
  go_enter Tryz.func41, Tryz.ntmps41
  go_wp2_with (first
  | (go_at_call 30; refine (krNaN (by first | assumption | exact dA_lt _ _ | exact dS_lt _ _ | exact dM_lt _ _ | exact dD_lt _ _ | exact dQ_lt _ | exact intW_lt _ | exact powW_lt _ | exact flW_lt (dA_lt _ _) | decide) _).mono ?_; rintro e wz ⟨rfl, hw1⟩; have hw2 := hw1.symm; clear hw1; subst hw2)
  | (go_at_call 33; refine (krabove (by first | assumption | exact dA_lt _ _ | exact dS_lt _ _ | exact dM_lt _ _ | exact dD_lt _ _ | exact dQ_lt _ | exact intW_lt _ | exact powW_lt _ | exact flW_lt (dA_lt _ _) | decide) (by first | assumption | exact dA_lt _ _ | exact dS_lt _ _ | exact dM_lt _ _ | exact dD_lt _ _ | exact dQ_lt _ | exact intW_lt _ | exact powW_lt _ | exact flW_lt (dA_lt _ _) | decide) _).mono ?_; rintro e wk ⟨rfl, bk⟩; have BL := Lib.hid (BL.out.trans (bk.mono BL.out.size)); clear bk)
  | (go_at_call 47; refine (krbelow (by first | assumption | exact dA_lt _ _ | exact dS_lt _ _ | exact dM_lt _ _ | exact dD_lt _ _ | exact dQ_lt _ | exact intW_lt _ | exact powW_lt _ | exact flW_lt (dA_lt _ _) | decide) (by first | assumption | exact dA_lt _ _ | exact dS_lt _ _ | exact dM_lt _ _ | exact dD_lt _ _ | exact dQ_lt _ | exact intW_lt _ | exact powW_lt _ | exact flW_lt (dA_lt _ _) | decide) _).mono ?_; rintro e wk ⟨rfl, bk⟩; have BL := Lib.hid (BL.out.trans (bk.mono BL.out.size)); clear bk)
  | (go_at_call 39; refine (rM (by first | assumption | exact dA_lt _ _ | exact dS_lt _ _ | exact dM_lt _ _ | exact dD_lt _ _ | exact dQ_lt _ | exact intW_lt _ | exact powW_lt _ | exact flW_lt (dA_lt _ _) | decide) (by first | assumption | exact dA_lt _ _ | exact dS_lt _ _ | exact dM_lt _ _ | exact dD_lt _ _ | exact dQ_lt _ | exact intW_lt _ | exact powW_lt _ | exact flW_lt (dA_lt _ _) | decide) _).mono ?_; rintro e wk ⟨rfl, bk⟩; have BL := Lib.hid (BL.out.trans (bk.mono BL.out.size)); clear bk)
  | (go_at_call 48; refine (rA (by first | assumption | exact dA_lt _ _ | exact dS_lt _ _ | exact dM_lt _ _ | exact dD_lt _ _ | exact dQ_lt _ | exact intW_lt _ | exact powW_lt _ | exact flW_lt (dA_lt _ _) | decide) (by first | assumption | exact dA_lt _ _ | exact dS_lt _ _ | exact dM_lt _ _ | exact dD_lt _ _ | exact dQ_lt _ | exact intW_lt _ | exact powW_lt _ | exact flW_lt (dA_lt _ _) | decide) _).mono ?_; rintro e wk ⟨rfl, bk⟩; have BL := Lib.hid (BL.out.trans (bk.mono BL.out.size)); clear bk)
  | (go_at_call 80; refine (rFl (by first | assumption | exact dA_lt _ _ | exact dS_lt _ _ | exact dM_lt _ _ | exact dD_lt _ _ | exact dQ_lt _ | exact intW_lt _ | exact powW_lt _ | exact flW_lt (dA_lt _ _) | decide) _).mono ?_; rintro e wk ⟨rfl, bk⟩; have BL := Lib.hid (BL.out.trans (bk.mono BL.out.size)); clear bk)
  | (go_at_call 49; refine (rS (by first | assumption | exact dA_lt _ _ | exact dS_lt _ _ | exact dM_lt _ _ | exact dD_lt _ _ | exact dQ_lt _ | exact intW_lt _ | exact powW_lt _ | exact flW_lt (dA_lt _ _) | decide) (by first | assumption | exact dA_lt _ _ | exact dS_lt _ _ | exact dM_lt _ _ | exact dD_lt _ _ | exact dQ_lt _ | exact intW_lt _ | exact powW_lt _ | exact flW_lt (dA_lt _ _) | decide) _).mono ?_; rintro e wk ⟨rfl, bk⟩; have BL := Lib.hid (BL.out.trans (bk.mono BL.out.size)); clear bk))
  obtain ⟨R, hR⟩ : ∃ R, expR a = R := ⟨_, rfl⟩
  have LRR : R < 2 ^ 64 := by rw [← hR]; exact dS_lt _ _
  have hR' : dS (dS a (dM (flW (dA (dM a 4609176140021203710) 4602678819172646912)) 4604418534311723008)) (dM (flW (dA (dM a 4609176140021203710) 4602678819172646912)) 4461442080421002358) = R := hR
  rw [hR] at HRR
  rw [hR']
  clear hR hR'
  go_loopw [5, 6] (fun x y wr => ∃ (k p : Nat) (z : Int), x = wd p ∧ y = .int .i64 z ∧ z = 13 - 1 * (k : Int) ∧ k ≤ 13 ∧ p < 2 ^ 64 ∧ rowN (expF R) 1 (13 - k) z p = RR ∧ Below w.heap.size w wr) (fun _ y _ => ((intOf y) + 1).toNat)
  case atStart => exact ⟨0, 4607182418800017408, 13, rfl, rfl, by omega, by omega, by decide, HRR.out, BL.out⟩
  case round =>
    obtain ⟨k, p, z, rfl, rfl, hz, hk, lp, hr, bl⟩ := hrel
    have BL := Lib.hid bl
    clear bl
    by_cases hkn : k = 13
    · have hz2 : z < 1 ∧ -1000 ≤ z := by omega
      rw [hkn] at hr
      have hp : p = RR := hr
      subst hp
      clear hz hk hr hkn HRR
      go_wp2_with (first
        | (go_at_call 38; refine (KW.out _).mono ?_; rintro e wk ⟨rfl, bk⟩; have BL := Lib.hid (BL.out.trans (bk.mono BL.out.size)); clear bk)
        | (go_at_call 35; refine (krpower (by omega) _).mono ?_; rintro e wk ⟨rfl, bk⟩; have BL := Lib.hid (BL.out.trans (bk.mono BL.out.size)); clear bk)
        | (go_at_call 39; refine (rM (by first | assumption | exact dA_lt _ _ | exact dS_lt _ _ | exact dM_lt _ _ | exact dD_lt _ _ | exact dQ_lt _ | exact intW_lt _ | exact powW_lt _ | exact flW_lt (dA_lt _ _) | decide) (by first | assumption | exact dA_lt _ _ | exact dS_lt _ _ | exact dM_lt _ _ | exact dD_lt _ _ | exact dQ_lt _ | exact intW_lt _ | exact powW_lt _ | exact flW_lt (dA_lt _ _) | decide) _).mono ?_; rintro e wk ⟨rfl, bk⟩; have BL := Lib.hid (BL.out.trans (bk.mono BL.out.size)); clear bk))
      go_ret
      exact ⟨by rw [HE.out]; rfl, BL.out⟩
    · have hz2 : 1 ≤ z ∧ z ≤ 13 := by omega
      obtain ⟨t, ht⟩ : ∃ t, 13 - k = t + 1 := ⟨13 - k - 1, by omega⟩
      rw [ht] at hr
      have HZ := Lib.hid hz
      have HT := Lib.hid ht
      have HK := Lib.hid hkn
      have HR := Lib.hid (show rowN (expF R) 1 t (z - 1) (expF R p (intW z)) = RR from hr)
      clear hz ht hr hkn
      go_wp2_with (first
        | (go_at_call 81; refine (krInt (by omega) (by omega) _).mono ?_; rintro e wk ⟨rfl, bk⟩; have BL := Lib.hid (BL.out.trans (bk.mono BL.out.size)); clear bk)
        | (go_at_call 39; refine (rM (by first | assumption | exact dA_lt _ _ | exact dS_lt _ _ | exact dM_lt _ _ | exact dD_lt _ _ | exact dQ_lt _ | exact intW_lt _ | exact powW_lt _ | exact flW_lt (dA_lt _ _) | decide) (by first | assumption | exact dA_lt _ _ | exact dS_lt _ _ | exact dM_lt _ _ | exact dD_lt _ _ | exact dQ_lt _ | exact intW_lt _ | exact powW_lt _ | exact flW_lt (dA_lt _ _) | decide) _).mono ?_; rintro e wk ⟨rfl, bk⟩; have BL := Lib.hid (BL.out.trans (bk.mono BL.out.size)); clear bk)
        | (go_at_call 40; refine (rD (by first | assumption | exact dA_lt _ _ | exact dS_lt _ _ | exact dM_lt _ _ | exact dD_lt _ _ | exact dQ_lt _ | exact intW_lt _ | exact powW_lt _ | exact flW_lt (dA_lt _ _) | decide) (by first | assumption | exact dA_lt _ _ | exact dS_lt _ _ | exact dM_lt _ _ | exact dD_lt _ _ | exact dQ_lt _ | exact intW_lt _ | exact powW_lt _ | exact flW_lt (dA_lt _ _) | decide) _).mono ?_; rintro e wk ⟨rfl, bk⟩; have BL := Lib.hid (BL.out.trans (bk.mono BL.out.size)); clear bk)
        | (go_at_call 48; refine (rA (by first | assumption | exact dA_lt _ _ | exact dS_lt _ _ | exact dM_lt _ _ | exact dD_lt _ _ | exact dQ_lt _ | exact intW_lt _ | exact powW_lt _ | exact flW_lt (dA_lt _ _) | decide) (by first | assumption | exact dA_lt _ _ | exact dS_lt _ _ | exact dM_lt _ _ | exact dD_lt _ _ | exact dQ_lt _ | exact intW_lt _ | exact powW_lt _ | exact flW_lt (dA_lt _ _) | decide) _).mono ?_; rintro e wk ⟨rfl, bk⟩; have BL := Lib.hid (BL.out.trans (bk.mono BL.out.size)); clear bk))
      go_roundw
      case rel =>
        refine ⟨k + 1, expF R p (intW z), z - 1, rfl, by go_num, by have := HZ.out; omega, by have := HK.out; omega, expF_lt _ _ _, ?_, BL.out⟩
        have := HT.out
        rw [show 13 - (k + 1) = t by omega]
        exact HR.out
      case measure => simp [intOf]; omega
theorem kexp {a : Nat} (ha : a < 2 ^ 64) (w : World) : Kb 26 #[wd a] w (wd (expW a)) := by
  unfold expW
  cases na : nanW a
  · rw [if_neg (by decide)]
    cases h1 : ltB 4649454530587146735 a
    · rw [if_neg (by decide)]
      cases h2 : ltB a 13873137513782915154
      · rw [if_neg (by decide)]; exact kexp4 ha na h1 h2 w
      · rw [if_pos rfl]; exact kexp3 ha na h1 h2 w
    · rw [if_pos rfl]; exact kexp2 ha na h1 w
  · rw [if_pos rfl]; exact kexp1 ha na w
theorem krexp {a : Nat} (ha : a < 2 ^ 64) (w : World) : Kb 41 #[wd a] w (wd (expW a)) := by
  unfold expW
  cases na : nanW a
  · rw [if_neg (by decide)]
    cases h1 : ltB 4649454530587146735 a
    · rw [if_neg (by decide)]
      cases h2 : ltB a 13873137513782915154
      · rw [if_neg (by decide)]; exact krexp4 ha na h1 h2 w
      · rw [if_pos rfl]; exact krexp3 ha na h1 h2 w
    · rw [if_pos rfl]; exact krexp2 ha na h1 w
  · rw [if_pos rfl]; exact krexp1 ha na w

end Go.Proofs.YtoodbdjmbicaeaaGreatDoor
