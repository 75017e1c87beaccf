/- The document's Mod, Cmp, Order, Min, Max, Nearest; the program's Min, Max, Nearest. No condition. -/
import Derived.Test.YtoodbdjmbicaeaaGreatDoorRest
namespace Go.Proofs.YtoodbdjmbicaeaaGreatDoor
open Go.RowKit
set_option maxRecDepth 8000
set_option maxHeartbeats 1000000
set_option linter.unusedVariables false
set_option linter.unusedSimpArgs false

theorem mod_ref {a b k : Nat} (s : Bool) (fa : rung a < infR) (ka : k ≤ pl (rung a)) (kb : k ≤ pl (rung b)) : Ieee.double.word s (min (rnd (2 * (sig a k % sig b k) + false.toNat) (-1074 + (k : Int) - 1)) infR) = Ieee.double.word s (modR (rung a) (rung b)) := by
  have h0 := roundW_plain s (sig a k % sig b k) (-1074 + (k : Int))
  unfold roundW at h0
  rw [h0]
  have h1 := rnd_near (sig a k % sig b k) (-1074 + (k : Int)) 0 k (by omega)
  have h2 := rnd_near (val (rung a) % val (rung b)) (-1074) 0 0 (by omega)
  rw [← Nat.mul_mod_mul_right, sig_val ka, sig_val kb] at h1
  rw [Nat.pow_zero, Nat.mul_one] at h2
  rw [h1.unique h2]
  have h3 : modR (rung a) (rung b) = rnd (val (rung a) % val (rung b)) (-1074) := rfl
  rw [← h3, Nat.min_eq_left (modR_lt fa)]
theorem sig_pos {a k : Nat} (h : rung a ≠ 0) (hk : k ≤ pl (rung a)) : 0 < sig a k := by
  refine Nat.pos_of_ne_zero fun h0 => val_pos h ?_
  rw [← sig_val hk, h0, Nat.zero_mul]

theorem krcmp1 (a b : Nat) (ha : a < 2 ^ 64) (hb : b < 2 ^ 64) (w : World) (h : nanW a = true ∨ (nanW a = false ∧ nanW b = true)) : Kb 36 #[wd a, wd b] w (.tuple #[.int .i64 0, .bool false]) := by
  rcases h with na | ⟨na, nb⟩
  all_goals
    go_enter Tryz.func36, Tryz.ntmps36
    go_wp2_with (first
      | (go_at_call 30; refine (krNaN (by assumption) _).mono ?_; rintro e wz ⟨rfl, hw1⟩; have hw2 := hw1.symm; clear hw1; subst hw2)
      | (go_at_call 31; refine (krInfQ (by assumption) _).mono ?_; rintro e wz ⟨rfl, hw1⟩; have hw2 := hw1.symm; clear hw1; subst hw2)
      | (go_at_call 37; refine (krNeg0 (by assumption) _).mono ?_; rintro e wz ⟨rfl, hw1⟩; have hw2 := hw1.symm; clear hw1; subst hw2)
      | (go_at_call 29; refine (krNought (by assumption) _).mono ?_; rintro e wz ⟨rfl, hw1⟩; have hw2 := hw1.symm; clear hw1; subst hw2))
    go_ret2
    exact ⟨rfl, Below.refl _ _⟩

theorem krcmp2 (a b : Nat) (ha : a < 2 ^ 64) (hb : b < 2 ^ 64) (w : World) (na : nanW a = false) (nb : nanW b = false) (za : zeroW a = true) (zb : zeroW b = true) : Kb 36 #[wd a, wd b] w (.tuple #[.int .i64 0, .bool true]) := by
  go_enter Tryz.func36, Tryz.ntmps36
  go_wp2_with (first
    | (go_at_call 30; refine (krNaN (by assumption) _).mono ?_; rintro e wz ⟨rfl, hw1⟩; have hw2 := hw1.symm; clear hw1; subst hw2)
    | (go_at_call 31; refine (krInfQ (by assumption) _).mono ?_; rintro e wz ⟨rfl, hw1⟩; have hw2 := hw1.symm; clear hw1; subst hw2)
    | (go_at_call 37; refine (krNeg0 (by assumption) _).mono ?_; rintro e wz ⟨rfl, hw1⟩; have hw2 := hw1.symm; clear hw1; subst hw2)
    | (go_at_call 29; refine (krNought (by assumption) _).mono ?_; rintro e wz ⟨rfl, hw1⟩; have hw2 := hw1.symm; clear hw1; subst hw2))
  go_ret2
  exact ⟨rfl, Below.refl _ _⟩

theorem krcmp3a (a b : Nat) (ha : a < 2 ^ 64) (hb : b < 2 ^ 64) (w : World) (na : nanW a = false) (nb : nanW b = false) (hz : zeroW a = false ∨ (zeroW a = true ∧ zeroW b = false)) (sa : isNeg a = true) (sb : isNeg b = false) : Kb 36 #[wd a, wd b] w (.tuple #[.int .i64 (-1), .bool true]) := by
  rcases hz with za | ⟨za, zb⟩
  all_goals
    go_enter Tryz.func36, Tryz.ntmps36
    go_wp2_with (first
      | (go_at_call 30; refine (krNaN (by assumption) _).mono ?_; rintro e wz ⟨rfl, hw1⟩; have hw2 := hw1.symm; clear hw1; subst hw2)
      | (go_at_call 31; refine (krInfQ (by assumption) _).mono ?_; rintro e wz ⟨rfl, hw1⟩; have hw2 := hw1.symm; clear hw1; subst hw2)
      | (go_at_call 37; refine (krNeg0 (by assumption) _).mono ?_; rintro e wz ⟨rfl, hw1⟩; have hw2 := hw1.symm; clear hw1; subst hw2)
      | (go_at_call 29; refine (krNought (by assumption) _).mono ?_; rintro e wz ⟨rfl, hw1⟩; have hw2 := hw1.symm; clear hw1; subst hw2))
    go_ret2
    exact ⟨rfl, Below.refl _ _⟩

theorem krcmp3b (a b : Nat) (ha : a < 2 ^ 64) (hb : b < 2 ^ 64) (w : World) (na : nanW a = false) (nb : nanW b = false) (hz : zeroW a = false ∨ (zeroW a = true ∧ zeroW b = false)) (sa : isNeg a = false) (sb : isNeg b = true) : Kb 36 #[wd a, wd b] w (.tuple #[.int .i64 1, .bool true]) := by
  rcases hz with za | ⟨za, zb⟩
  all_goals
    go_enter Tryz.func36, Tryz.ntmps36
    go_wp2_with (first
      | (go_at_call 30; refine (krNaN (by assumption) _).mono ?_; rintro e wz ⟨rfl, hw1⟩; have hw2 := hw1.symm; clear hw1; subst hw2)
      | (go_at_call 31; refine (krInfQ (by assumption) _).mono ?_; rintro e wz ⟨rfl, hw1⟩; have hw2 := hw1.symm; clear hw1; subst hw2)
      | (go_at_call 37; refine (krNeg0 (by assumption) _).mono ?_; rintro e wz ⟨rfl, hw1⟩; have hw2 := hw1.symm; clear hw1; subst hw2)
      | (go_at_call 29; refine (krNought (by assumption) _).mono ?_; rintro e wz ⟨rfl, hw1⟩; have hw2 := hw1.symm; clear hw1; subst hw2))
    go_ret2
    exact ⟨rfl, Below.refl _ _⟩

theorem krcmp4at (a b : Nat) (ha : a < 2 ^ 64) (hb : b < 2 ^ 64) (w : World) (na : nanW a = false) (nb : nanW b = false) (hz : zeroW a = false ∨ (zeroW a = true ∧ zeroW b = false)) (sa : isNeg a = true) (sb : isNeg b = true) (ia : isInfW a = true) (ib : isInfW b = true) : Kb 36 #[wd a, wd b] w (.tuple #[.int .i64 0, .bool true]) := by
  rcases hz with za | ⟨za, zb⟩
  all_goals
    go_enter Tryz.func36, Tryz.ntmps36
    go_wp2_with (first
      | (go_at_call 30; refine (krNaN (by assumption) _).mono ?_; rintro e wz ⟨rfl, hw1⟩; have hw2 := hw1.symm; clear hw1; subst hw2)
      | (go_at_call 31; refine (krInfQ (by assumption) _).mono ?_; rintro e wz ⟨rfl, hw1⟩; have hw2 := hw1.symm; clear hw1; subst hw2)
      | (go_at_call 37; refine (krNeg0 (by assumption) _).mono ?_; rintro e wz ⟨rfl, hw1⟩; have hw2 := hw1.symm; clear hw1; subst hw2)
      | (go_at_call 29; refine (krNought (by assumption) _).mono ?_; rintro e wz ⟨rfl, hw1⟩; have hw2 := hw1.symm; clear hw1; subst hw2))
    go_ret2
    exact ⟨rfl, Below.refl _ _⟩

theorem krcmp4af (a b : Nat) (ha : a < 2 ^ 64) (hb : b < 2 ^ 64) (w : World) (na : nanW a = false) (nb : nanW b = false) (hz : zeroW a = false ∨ (zeroW a = true ∧ zeroW b = false)) (sa : isNeg a = false) (sb : isNeg b = false) (ia : isInfW a = true) (ib : isInfW b = true) : Kb 36 #[wd a, wd b] w (.tuple #[.int .i64 0, .bool true]) := by
  rcases hz with za | ⟨za, zb⟩
  all_goals
    go_enter Tryz.func36, Tryz.ntmps36
    go_wp2_with (first
      | (go_at_call 30; refine (krNaN (by assumption) _).mono ?_; rintro e wz ⟨rfl, hw1⟩; have hw2 := hw1.symm; clear hw1; subst hw2)
      | (go_at_call 31; refine (krInfQ (by assumption) _).mono ?_; rintro e wz ⟨rfl, hw1⟩; have hw2 := hw1.symm; clear hw1; subst hw2)
      | (go_at_call 37; refine (krNeg0 (by assumption) _).mono ?_; rintro e wz ⟨rfl, hw1⟩; have hw2 := hw1.symm; clear hw1; subst hw2)
      | (go_at_call 29; refine (krNought (by assumption) _).mono ?_; rintro e wz ⟨rfl, hw1⟩; have hw2 := hw1.symm; clear hw1; subst hw2))
    go_ret2
    exact ⟨rfl, Below.refl _ _⟩

theorem krcmp4bt (a b : Nat) (ha : a < 2 ^ 64) (hb : b < 2 ^ 64) (w : World) (na : nanW a = false) (nb : nanW b = false) (hz : zeroW a = false ∨ (zeroW a = true ∧ zeroW b = false)) (sa : isNeg a = true) (sb : isNeg b = true) (ia : isInfW a = true) (ib : isInfW b = false) : Kb 36 #[wd a, wd b] w (.tuple #[.int .i64 (-1), .bool true]) := by
  rcases hz with za | ⟨za, zb⟩
  all_goals
    go_enter Tryz.func36, Tryz.ntmps36
    go_wp2_with (first
      | (go_at_call 30; refine (krNaN (by assumption) _).mono ?_; rintro e wz ⟨rfl, hw1⟩; have hw2 := hw1.symm; clear hw1; subst hw2)
      | (go_at_call 31; refine (krInfQ (by assumption) _).mono ?_; rintro e wz ⟨rfl, hw1⟩; have hw2 := hw1.symm; clear hw1; subst hw2)
      | (go_at_call 37; refine (krNeg0 (by assumption) _).mono ?_; rintro e wz ⟨rfl, hw1⟩; have hw2 := hw1.symm; clear hw1; subst hw2)
      | (go_at_call 29; refine (krNought (by assumption) _).mono ?_; rintro e wz ⟨rfl, hw1⟩; have hw2 := hw1.symm; clear hw1; subst hw2))
    go_ret2
    exact ⟨rfl, Below.refl _ _⟩

theorem krcmp4bf (a b : Nat) (ha : a < 2 ^ 64) (hb : b < 2 ^ 64) (w : World) (na : nanW a = false) (nb : nanW b = false) (hz : zeroW a = false ∨ (zeroW a = true ∧ zeroW b = false)) (sa : isNeg a = false) (sb : isNeg b = false) (ia : isInfW a = true) (ib : isInfW b = false) : Kb 36 #[wd a, wd b] w (.tuple #[.int .i64 1, .bool true]) := by
  rcases hz with za | ⟨za, zb⟩
  all_goals
    go_enter Tryz.func36, Tryz.ntmps36
    go_wp2_with (first
      | (go_at_call 30; refine (krNaN (by assumption) _).mono ?_; rintro e wz ⟨rfl, hw1⟩; have hw2 := hw1.symm; clear hw1; subst hw2)
      | (go_at_call 31; refine (krInfQ (by assumption) _).mono ?_; rintro e wz ⟨rfl, hw1⟩; have hw2 := hw1.symm; clear hw1; subst hw2)
      | (go_at_call 37; refine (krNeg0 (by assumption) _).mono ?_; rintro e wz ⟨rfl, hw1⟩; have hw2 := hw1.symm; clear hw1; subst hw2)
      | (go_at_call 29; refine (krNought (by assumption) _).mono ?_; rintro e wz ⟨rfl, hw1⟩; have hw2 := hw1.symm; clear hw1; subst hw2))
    go_ret2
    exact ⟨rfl, Below.refl _ _⟩

theorem krcmp4ct (a b : Nat) (ha : a < 2 ^ 64) (hb : b < 2 ^ 64) (w : World) (na : nanW a = false) (nb : nanW b = false) (hz : zeroW a = false ∨ (zeroW a = true ∧ zeroW b = false)) (sa : isNeg a = true) (sb : isNeg b = true) (ia : isInfW a = false) (ib : isInfW b = true) : Kb 36 #[wd a, wd b] w (.tuple #[.int .i64 1, .bool true]) := by
  rcases hz with za | ⟨za, zb⟩
  all_goals
    go_enter Tryz.func36, Tryz.ntmps36
    go_wp2_with (first
      | (go_at_call 30; refine (krNaN (by assumption) _).mono ?_; rintro e wz ⟨rfl, hw1⟩; have hw2 := hw1.symm; clear hw1; subst hw2)
      | (go_at_call 31; refine (krInfQ (by assumption) _).mono ?_; rintro e wz ⟨rfl, hw1⟩; have hw2 := hw1.symm; clear hw1; subst hw2)
      | (go_at_call 37; refine (krNeg0 (by assumption) _).mono ?_; rintro e wz ⟨rfl, hw1⟩; have hw2 := hw1.symm; clear hw1; subst hw2)
      | (go_at_call 29; refine (krNought (by assumption) _).mono ?_; rintro e wz ⟨rfl, hw1⟩; have hw2 := hw1.symm; clear hw1; subst hw2))
    go_ret2
    exact ⟨rfl, Below.refl _ _⟩

theorem krcmp4cf (a b : Nat) (ha : a < 2 ^ 64) (hb : b < 2 ^ 64) (w : World) (na : nanW a = false) (nb : nanW b = false) (hz : zeroW a = false ∨ (zeroW a = true ∧ zeroW b = false)) (sa : isNeg a = false) (sb : isNeg b = false) (ia : isInfW a = false) (ib : isInfW b = true) : Kb 36 #[wd a, wd b] w (.tuple #[.int .i64 (-1), .bool true]) := by
  rcases hz with za | ⟨za, zb⟩
  all_goals
    go_enter Tryz.func36, Tryz.ntmps36
    go_wp2_with (first
      | (go_at_call 30; refine (krNaN (by assumption) _).mono ?_; rintro e wz ⟨rfl, hw1⟩; have hw2 := hw1.symm; clear hw1; subst hw2)
      | (go_at_call 31; refine (krInfQ (by assumption) _).mono ?_; rintro e wz ⟨rfl, hw1⟩; have hw2 := hw1.symm; clear hw1; subst hw2)
      | (go_at_call 37; refine (krNeg0 (by assumption) _).mono ?_; rintro e wz ⟨rfl, hw1⟩; have hw2 := hw1.symm; clear hw1; subst hw2)
      | (go_at_call 29; refine (krNought (by assumption) _).mono ?_; rintro e wz ⟨rfl, hw1⟩; have hw2 := hw1.symm; clear hw1; subst hw2))
    go_ret2
    exact ⟨rfl, Below.refl _ _⟩

theorem krcmp5t (a b X Y : Nat) (e Z : Int) (ha : a < 2 ^ 64) (hb : b < 2 ^ 64) (w : World) (na : nanW a = false) (nb : nanW b = false) (hz : zeroW a = false ∨ (zeroW a = true ∧ zeroW b = false)) (sa : isNeg a = true) (sb : isNeg b = true) (ia : isInfW a = false) (ib : isInfW b = false)
    (kl : Calls Tryz.prog 70 #[wd a, wd b] w fun x w' => ∃ u u', x = .returned (.tuple #[u, u', .int .i64 e]) ∧ Bg w.heap.size w' u X ∧ Bg w.heap.size w' u' Y ∧ Below w.heap.size w w') (hZ : cmpN X Y = Z) (hZb : -1 ≤ Z ∧ Z ≤ 1) : Kb 36 #[wd a, wd b] w (.tuple #[.int .i64 (-Z), .bool true]) := by
  have KL := Lib.hid kl
  have HZ := Lib.hid hZ
  clear kl hZ
  rcases hz with za | ⟨za, zb⟩
  all_goals
    go_enter Tryz.func36, Tryz.ntmps36
    go_wp2_with (first
      | (go_at_call 30; refine (krNaN (by assumption) _).mono ?_; rintro e wz ⟨rfl, hw1⟩; have hw2 := hw1.symm; clear hw1; subst hw2)
      | (go_at_call 31; refine (krInfQ (by assumption) _).mono ?_; rintro e wz ⟨rfl, hw1⟩; have hw2 := hw1.symm; clear hw1; subst hw2)
      | (go_at_call 37; refine (krNeg0 (by assumption) _).mono ?_; rintro e wz ⟨rfl, hw1⟩; have hw2 := hw1.symm; clear hw1; subst hw2)
      | (go_at_call 29; refine (krNought (by assumption) _).mono ?_; rintro e wz ⟨rfl, hw1⟩; have hw2 := hw1.symm; clear hw1; subst hw2)
      | (go_at_call 70; refine (KL.out).mono ?_; rintro e w3 ⟨p3, p3', rfl, k3, k3', b3⟩; have K3 := Lib.hid k3; have K3' := Lib.hid k3'; have B3 := Lib.hid b3; clear k3 k3' b3)
      | (go_at_call 71; refine (kless K3.out K3'.out).mono ?_; rw [HZ.out]; rintro e w4 ⟨rfl, n4, hw⟩; have B4 := Lib.hid (show Below w.heap.size w w4 by rw [hw]; exact B3.out.trans (drew_below _ _ _)); clear hw))
    go_ret2
    exact ⟨by rfl, B4.out⟩

theorem krcmp5f (a b X Y : Nat) (e Z : Int) (ha : a < 2 ^ 64) (hb : b < 2 ^ 64) (w : World) (na : nanW a = false) (nb : nanW b = false) (hz : zeroW a = false ∨ (zeroW a = true ∧ zeroW b = false)) (sa : isNeg a = false) (sb : isNeg b = false) (ia : isInfW a = false) (ib : isInfW b = false)
    (kl : Calls Tryz.prog 70 #[wd a, wd b] w fun x w' => ∃ u u', x = .returned (.tuple #[u, u', .int .i64 e]) ∧ Bg w.heap.size w' u X ∧ Bg w.heap.size w' u' Y ∧ Below w.heap.size w w') (hZ : cmpN X Y = Z) (hZb : -1 ≤ Z ∧ Z ≤ 1) : Kb 36 #[wd a, wd b] w (.tuple #[.int .i64 (Z), .bool true]) := by
  have KL := Lib.hid kl
  have HZ := Lib.hid hZ
  clear kl hZ
  rcases hz with za | ⟨za, zb⟩
  all_goals
    go_enter Tryz.func36, Tryz.ntmps36
    go_wp2_with (first
      | (go_at_call 30; refine (krNaN (by assumption) _).mono ?_; rintro e wz ⟨rfl, hw1⟩; have hw2 := hw1.symm; clear hw1; subst hw2)
      | (go_at_call 31; refine (krInfQ (by assumption) _).mono ?_; rintro e wz ⟨rfl, hw1⟩; have hw2 := hw1.symm; clear hw1; subst hw2)
      | (go_at_call 37; refine (krNeg0 (by assumption) _).mono ?_; rintro e wz ⟨rfl, hw1⟩; have hw2 := hw1.symm; clear hw1; subst hw2)
      | (go_at_call 29; refine (krNought (by assumption) _).mono ?_; rintro e wz ⟨rfl, hw1⟩; have hw2 := hw1.symm; clear hw1; subst hw2)
      | (go_at_call 70; refine (KL.out).mono ?_; rintro e w3 ⟨p3, p3', rfl, k3, k3', b3⟩; have K3 := Lib.hid k3; have K3' := Lib.hid k3'; have B3 := Lib.hid b3; clear k3 k3' b3)
      | (go_at_call 71; refine (kless K3.out K3'.out).mono ?_; rw [HZ.out]; rintro e w4 ⟨rfl, n4, hw⟩; have B4 := Lib.hid (show Below w.heap.size w w4 by rw [hw]; exact B3.out.trans (drew_below _ _ _)); clear hw))
    go_ret2
    exact ⟨by rfl, B4.out⟩

end Go.Proofs.YtoodbdjmbicaeaaGreatDoor
