/- The document's Mod, Cmp, Order, Min, Max, Nearest; the program's Min, Max, Nearest. No condition. -/
import Derived.Test.YtoodbdjmbicaeaaGreatRest
namespace Go.Proofs.YtoodbdjmbicaeaaGreat
open Go.RowKit
set_option maxRecDepth 8000
set_option maxHeartbeats 1000000
set_option linter.unusedVariables false
set_option linter.unusedSimpArgs false

theorem mod_ref {a b k : Nat} (s : Bool) (fa : rung a < infR) (ka : k ≤ pl (rung a)) (kb : k ≤ pl (rung b)) : Ieee.double.word s (min (rnd (2 * (sig a k % sig b k) + false.toNat) (-1074 + (k : Int) - 1)) infR) = Ieee.double.word s (modR (rung a) (rung b)) := by
  have h0 := roundW_plain s (sig a k % sig b k) (-1074 + (k : Int))
  unfold roundW at h0
  rw [h0]
  have h1 := rnd_near (sig a k % sig b k) (-1074 + (k : Int)) 0 k (by omega)
  have h2 := rnd_near (val (rung a) % val (rung b)) (-1074) 0 0 (by omega)
  rw [← Nat.mul_mod_mul_right, sig_val ka, sig_val kb] at h1
  rw [Nat.pow_zero, Nat.mul_one] at h2
  rw [h1.unique h2]
  have h3 : modR (rung a) (rung b) = rnd (val (rung a) % val (rung b)) (-1074) := rfl
  rw [← h3, Nat.min_eq_left (modR_lt fa)]
theorem sig_pos {a k : Nat} (h : rung a ≠ 0) (hk : k ≤ pl (rung a)) : 0 < sig a k := by
  refine Nat.pos_of_ne_zero fun h0 => val_pos h ?_
  rw [← sig_val hk, h0, Nat.zero_mul]

theorem krmod1 (a b : Nat) (ha : a < 2 ^ 64) (hb : b < 2 ^ 64) (w : World) (h : nanW a = true ∨ (nanW a = false ∧ nanW b = true) ∨ (nanW a = false ∧ nanW b = false ∧ isInfW a = true) ∨ (nanW a = false ∧ nanW b = false ∧ isInfW a = false ∧ zeroW b = true)) : Kb 123 #[wd a, wd b] w (wd theNaN) := by
  rcases h with na | ⟨na, nb⟩ | ⟨na, nb, ia⟩ | ⟨na, nb, ia, zb⟩
  all_goals
    go_enter Tryz.func123, Tryz.ntmps123
    go_wp2_with (first
      | (go_at_call 48; refine (krNaN (by assumption) _).mono ?_; rintro e wz ⟨rfl, hw1⟩; have hw2 := hw1.symm; clear hw1; subst hw2)
      | (go_at_call 81; refine (krInfQ (by assumption) _).mono ?_; rintro e wz ⟨rfl, hw1⟩; have hw2 := hw1.symm; clear hw1; subst hw2)
      | (go_at_call 80; refine (krNeg0 (by assumption) _).mono ?_; rintro e wz ⟨rfl, hw1⟩; have hw2 := hw1.symm; clear hw1; subst hw2)
      | (go_at_call 78; refine (krNought (by assumption) _).mono ?_; rintro e wz ⟨rfl, hw1⟩; have hw2 := hw1.symm; clear hw1; subst hw2))
    go_ret
    exact ⟨rfl, Below.refl _ _⟩

theorem krmod2 (a b : Nat) (ha : a < 2 ^ 64) (hb : b < 2 ^ 64) (w : World) (na : nanW a = false) (nb : nanW b = false) (ia : isInfW a = false) (zb : zeroW b = false) (h : isInfW b = true ∨ (isInfW b = false ∧ zeroW a = true)) : Kb 123 #[wd a, wd b] w (wd a) := by
  rcases h with ib | ⟨ib, za⟩
  all_goals
    go_enter Tryz.func123, Tryz.ntmps123
    go_wp2_with (first
      | (go_at_call 48; refine (krNaN (by assumption) _).mono ?_; rintro e wz ⟨rfl, hw1⟩; have hw2 := hw1.symm; clear hw1; subst hw2)
      | (go_at_call 81; refine (krInfQ (by assumption) _).mono ?_; rintro e wz ⟨rfl, hw1⟩; have hw2 := hw1.symm; clear hw1; subst hw2)
      | (go_at_call 80; refine (krNeg0 (by assumption) _).mono ?_; rintro e wz ⟨rfl, hw1⟩; have hw2 := hw1.symm; clear hw1; subst hw2)
      | (go_at_call 78; refine (krNought (by assumption) _).mono ?_; rintro e wz ⟨rfl, hw1⟩; have hw2 := hw1.symm; clear hw1; subst hw2))
    go_ret
    exact ⟨rfl, Below.refl _ _⟩

theorem krmod3 (a b X Y : Nat) (e V : Int) (ha : a < 2 ^ 64) (hb : b < 2 ^ 64) (w : World) (na : nanW a = false) (nb : nanW b = false) (ia : isInfW a = false) (zb : zeroW b = false) (ib : isInfW b = false) (za : zeroW a = false) (hX : X < bp 70) (hY : Y < bp 70) (hY0 : 0 < Y) (he : -5000 ≤ e ∧ e ≤ 5000)
    (kl : Calls Tryz.prog 109 #[wd a, wd b] w fun x w' => ∃ u u', x = .returned (.tuple #[u, u', .int .i64 e]) ∧ Bg w.heap.size w' u X ∧ Bg w.heap.size w' u' Y ∧ Below w.heap.size w w')
    (hV : ((Ieee.double.word (isNeg a) (min (rnd (2 * (X % Y) + false.toNat) (e - 1)) infR) : Nat) : Int) = V) : Kb 123 #[wd a, wd b] w (.int .u64 V) := by
  have KL := Lib.hid kl
  have HX := Lib.hid (dig_len hX)
  have HY := Lib.hid (dig_len hY)
  have HZ := Lib.hid (dig_len (Nat.lt_trans (Nat.mod_lt X hY0) hY))
  have HY0 := Lib.hid hY0
  have HV := Lib.hid hV
  obtain ⟨base, hbase⟩ : ∃ base, w.heap.size = base := ⟨_, rfl⟩
  obtain ⟨s, hs⟩ : ∃ s, isNeg a = s := ⟨_, rfl⟩
  rw [hs] at HV
  clear kl hX hY hY0 hV
  go_enter Tryz.func123, Tryz.ntmps123
  go_wp2_with (first
    | (go_at_call 48; refine (krNaN (by assumption) _).mono ?_; rintro e wz ⟨rfl, hw1⟩; have hw2 := hw1.symm; clear hw1; subst hw2)
    | (go_at_call 81; refine (krInfQ (by assumption) _).mono ?_; rintro e wz ⟨rfl, hw1⟩; have hw2 := hw1.symm; clear hw1; subst hw2)
    | (go_at_call 80; refine (krNeg0 (by assumption) _).mono ?_; rintro e wz ⟨rfl, hw1⟩; have hw2 := hw1.symm; clear hw1; subst hw2)
    | (go_at_call 78; refine (krNought (by assumption) _).mono ?_; rintro e wz ⟨rfl, hw1⟩; have hw2 := hw1.symm; clear hw1; subst hw2)
    | (go_at_call 109; refine (KL.out).mono ?_; rintro e w3 ⟨p3, p3', rfl, k3, k3', b3⟩; rw [hbase] at k3 k3' b3; have K3 := Lib.hid k3; have K3' := Lib.hid k3'; have B3 := Lib.hid b3; clear k3 k3' b3)
    | (go_at_call 93; refine (kparts K3.out K3'.out HY0.out (by have := HX.out; omega) (by have := HY.out; omega)).mono ?_; rintro e w4 ⟨p4, p4', rfl, k4, k4', b4⟩; have K4 := Lib.hid k4'; have B4 := Lib.hid (B3.out.trans (b4.mono (by have := B3.out.size; omega))); clear k4 k4' b4)
    | (go_at_call 85; refine (kround _ _ _ K4.out (by have := HZ.out; omega) he (by intro hh; cases hh)).mono ?_; rintro e w5 ⟨rfl, b5⟩; have B5 := Lib.hid (B4.out.trans (b5.mono (by have := B4.out.size; omega))); clear b5))
  go_ret
  exact ⟨by rw [← HV.out]; rfl, by rw [hbase]; exact B5.out⟩

theorem krMod {a b : Nat} (ha : a < 2 ^ 64) (hb : b < 2 ^ 64) (w : World) : Kb 123 #[wd a, wd b] w (wd (modW a b)) := by
  cases na : nanW a
  · cases nb : nanW b
    · by_cases ia : rung a = infR
      · rw [modW_nan (.inr (.inr (.inl ia)))]
        exact krmod1 a b ha hb w (.inr (.inr (.inl ⟨na, nb, infT ia⟩)))
      · by_cases zb : rung b = 0
        · rw [modW_nan (.inr (.inr (.inr zb)))]
          exact krmod1 a b ha hb w (.inr (.inr (.inr ⟨na, nb, infF ia, zeroT zb⟩)))
        · have fa : rung a < infR := Nat.lt_of_le_of_ne (nan_false na) ia
          rw [modW_num na nb ia zb]
          by_cases ib : rung b = infR
          · have hmr : modR (rung a) (rung b) = rung a := modR_of (by rw [ib, Nat.mod_eq_of_lt (val_lt fa)])
            rw [hmr, word_split ha]
            exact krmod2 a b ha hb w na nb (infF ia) (zeroF zb) (.inl (infT ib))
          · by_cases za : rung a = 0
            · have hmr : modR (rung a) (rung b) = rung a := modR_of (by rw [za, val_zero, Nat.zero_mod])
              rw [hmr, word_split ha]
              exact krmod2 a b ha hb w na nb (infF ia) (zeroF zb) (.inr ⟨infF ib, zeroT za⟩)
            · have fb : rung b < infR := Nat.lt_of_le_of_ne (nan_false nb) ib
              have pa := pl_le fa
              have pb := pl_le fb
              have ml := Nat.min_le_left (pl (rung a)) (pl (rung b))
              have mr := Nat.min_le_right (pl (rung a)) (pl (rung b))
              refine krmod3 a b _ _ _ _ ha hb w na nb (infF ia) (zeroF zb) (infF ib) (zeroF za) (sig_lt fa) (sig_lt fb) (sig_pos zb mr) ?_ (krline ha hb fa fb w) ?_
              · omega
              · rw [mod_ref (isNeg a) fa ml mr]
    · rw [modW_nan (.inr (.inl nb))]
      exact krmod1 a b ha hb w (.inr (.inl ⟨na, nb⟩))
  · rw [modW_nan (.inl na)]
    exact krmod1 a b ha hb w (.inl na)

theorem krcmp1 (a b : Nat) (ha : a < 2 ^ 64) (hb : b < 2 ^ 64) (w : World) (h : nanW a = true ∨ (nanW a = false ∧ nanW b = true)) : Kb 97 #[wd a, wd b] w (.tuple #[.int .i64 0, .bool false]) := by
  rcases h with na | ⟨na, nb⟩
  all_goals
    go_enter Tryz.func97, Tryz.ntmps97
    go_wp2_with (first
      | (go_at_call 48; refine (krNaN (by assumption) _).mono ?_; rintro e wz ⟨rfl, hw1⟩; have hw2 := hw1.symm; clear hw1; subst hw2)
      | (go_at_call 81; refine (krInfQ (by assumption) _).mono ?_; rintro e wz ⟨rfl, hw1⟩; have hw2 := hw1.symm; clear hw1; subst hw2)
      | (go_at_call 80; refine (krNeg0 (by assumption) _).mono ?_; rintro e wz ⟨rfl, hw1⟩; have hw2 := hw1.symm; clear hw1; subst hw2)
      | (go_at_call 78; refine (krNought (by assumption) _).mono ?_; rintro e wz ⟨rfl, hw1⟩; have hw2 := hw1.symm; clear hw1; subst hw2))
    go_ret2
    exact ⟨rfl, Below.refl _ _⟩

theorem krcmp2 (a b : Nat) (ha : a < 2 ^ 64) (hb : b < 2 ^ 64) (w : World) (na : nanW a = false) (nb : nanW b = false) (za : zeroW a = true) (zb : zeroW b = true) : Kb 97 #[wd a, wd b] w (.tuple #[.int .i64 0, .bool true]) := by
  go_enter Tryz.func97, Tryz.ntmps97
  go_wp2_with (first
    | (go_at_call 48; refine (krNaN (by assumption) _).mono ?_; rintro e wz ⟨rfl, hw1⟩; have hw2 := hw1.symm; clear hw1; subst hw2)
    | (go_at_call 81; refine (krInfQ (by assumption) _).mono ?_; rintro e wz ⟨rfl, hw1⟩; have hw2 := hw1.symm; clear hw1; subst hw2)
    | (go_at_call 80; refine (krNeg0 (by assumption) _).mono ?_; rintro e wz ⟨rfl, hw1⟩; have hw2 := hw1.symm; clear hw1; subst hw2)
    | (go_at_call 78; refine (krNought (by assumption) _).mono ?_; rintro e wz ⟨rfl, hw1⟩; have hw2 := hw1.symm; clear hw1; subst hw2))
  go_ret2
  exact ⟨rfl, Below.refl _ _⟩

theorem krcmp3a (a b : Nat) (ha : a < 2 ^ 64) (hb : b < 2 ^ 64) (w : World) (na : nanW a = false) (nb : nanW b = false) (hz : zeroW a = false ∨ (zeroW a = true ∧ zeroW b = false)) (sa : isNeg a = true) (sb : isNeg b = false) : Kb 97 #[wd a, wd b] w (.tuple #[.int .i64 (-1), .bool true]) := by
  rcases hz with za | ⟨za, zb⟩
  all_goals
    go_enter Tryz.func97, Tryz.ntmps97
    go_wp2_with (first
      | (go_at_call 48; refine (krNaN (by assumption) _).mono ?_; rintro e wz ⟨rfl, hw1⟩; have hw2 := hw1.symm; clear hw1; subst hw2)
      | (go_at_call 81; refine (krInfQ (by assumption) _).mono ?_; rintro e wz ⟨rfl, hw1⟩; have hw2 := hw1.symm; clear hw1; subst hw2)
      | (go_at_call 80; refine (krNeg0 (by assumption) _).mono ?_; rintro e wz ⟨rfl, hw1⟩; have hw2 := hw1.symm; clear hw1; subst hw2)
      | (go_at_call 78; refine (krNought (by assumption) _).mono ?_; rintro e wz ⟨rfl, hw1⟩; have hw2 := hw1.symm; clear hw1; subst hw2))
    go_ret2
    exact ⟨rfl, Below.refl _ _⟩

theorem krcmp3b (a b : Nat) (ha : a < 2 ^ 64) (hb : b < 2 ^ 64) (w : World) (na : nanW a = false) (nb : nanW b = false) (hz : zeroW a = false ∨ (zeroW a = true ∧ zeroW b = false)) (sa : isNeg a = false) (sb : isNeg b = true) : Kb 97 #[wd a, wd b] w (.tuple #[.int .i64 1, .bool true]) := by
  rcases hz with za | ⟨za, zb⟩
  all_goals
    go_enter Tryz.func97, Tryz.ntmps97
    go_wp2_with (first
      | (go_at_call 48; refine (krNaN (by assumption) _).mono ?_; rintro e wz ⟨rfl, hw1⟩; have hw2 := hw1.symm; clear hw1; subst hw2)
      | (go_at_call 81; refine (krInfQ (by assumption) _).mono ?_; rintro e wz ⟨rfl, hw1⟩; have hw2 := hw1.symm; clear hw1; subst hw2)
      | (go_at_call 80; refine (krNeg0 (by assumption) _).mono ?_; rintro e wz ⟨rfl, hw1⟩; have hw2 := hw1.symm; clear hw1; subst hw2)
      | (go_at_call 78; refine (krNought (by assumption) _).mono ?_; rintro e wz ⟨rfl, hw1⟩; have hw2 := hw1.symm; clear hw1; subst hw2))
    go_ret2
    exact ⟨rfl, Below.refl _ _⟩

theorem krcmp4at (a b : Nat) (ha : a < 2 ^ 64) (hb : b < 2 ^ 64) (w : World) (na : nanW a = false) (nb : nanW b = false) (hz : zeroW a = false ∨ (zeroW a = true ∧ zeroW b = false)) (sa : isNeg a = true) (sb : isNeg b = true) (ia : isInfW a = true) (ib : isInfW b = true) : Kb 97 #[wd a, wd b] w (.tuple #[.int .i64 0, .bool true]) := by
  rcases hz with za | ⟨za, zb⟩
  all_goals
    go_enter Tryz.func97, Tryz.ntmps97
    go_wp2_with (first
      | (go_at_call 48; refine (krNaN (by assumption) _).mono ?_; rintro e wz ⟨rfl, hw1⟩; have hw2 := hw1.symm; clear hw1; subst hw2)
      | (go_at_call 81; refine (krInfQ (by assumption) _).mono ?_; rintro e wz ⟨rfl, hw1⟩; have hw2 := hw1.symm; clear hw1; subst hw2)
      | (go_at_call 80; refine (krNeg0 (by assumption) _).mono ?_; rintro e wz ⟨rfl, hw1⟩; have hw2 := hw1.symm; clear hw1; subst hw2)
      | (go_at_call 78; refine (krNought (by assumption) _).mono ?_; rintro e wz ⟨rfl, hw1⟩; have hw2 := hw1.symm; clear hw1; subst hw2))
    go_ret2
    exact ⟨rfl, Below.refl _ _⟩

theorem krcmp4af (a b : Nat) (ha : a < 2 ^ 64) (hb : b < 2 ^ 64) (w : World) (na : nanW a = false) (nb : nanW b = false) (hz : zeroW a = false ∨ (zeroW a = true ∧ zeroW b = false)) (sa : isNeg a = false) (sb : isNeg b = false) (ia : isInfW a = true) (ib : isInfW b = true) : Kb 97 #[wd a, wd b] w (.tuple #[.int .i64 0, .bool true]) := by
  rcases hz with za | ⟨za, zb⟩
  all_goals
    go_enter Tryz.func97, Tryz.ntmps97
    go_wp2_with (first
      | (go_at_call 48; refine (krNaN (by assumption) _).mono ?_; rintro e wz ⟨rfl, hw1⟩; have hw2 := hw1.symm; clear hw1; subst hw2)
      | (go_at_call 81; refine (krInfQ (by assumption) _).mono ?_; rintro e wz ⟨rfl, hw1⟩; have hw2 := hw1.symm; clear hw1; subst hw2)
      | (go_at_call 80; refine (krNeg0 (by assumption) _).mono ?_; rintro e wz ⟨rfl, hw1⟩; have hw2 := hw1.symm; clear hw1; subst hw2)
      | (go_at_call 78; refine (krNought (by assumption) _).mono ?_; rintro e wz ⟨rfl, hw1⟩; have hw2 := hw1.symm; clear hw1; subst hw2))
    go_ret2
    exact ⟨rfl, Below.refl _ _⟩

theorem krcmp4bt (a b : Nat) (ha : a < 2 ^ 64) (hb : b < 2 ^ 64) (w : World) (na : nanW a = false) (nb : nanW b = false) (hz : zeroW a = false ∨ (zeroW a = true ∧ zeroW b = false)) (sa : isNeg a = true) (sb : isNeg b = true) (ia : isInfW a = true) (ib : isInfW b = false) : Kb 97 #[wd a, wd b] w (.tuple #[.int .i64 (-1), .bool true]) := by
  rcases hz with za | ⟨za, zb⟩
  all_goals
    go_enter Tryz.func97, Tryz.ntmps97
    go_wp2_with (first
      | (go_at_call 48; refine (krNaN (by assumption) _).mono ?_; rintro e wz ⟨rfl, hw1⟩; have hw2 := hw1.symm; clear hw1; subst hw2)
      | (go_at_call 81; refine (krInfQ (by assumption) _).mono ?_; rintro e wz ⟨rfl, hw1⟩; have hw2 := hw1.symm; clear hw1; subst hw2)
      | (go_at_call 80; refine (krNeg0 (by assumption) _).mono ?_; rintro e wz ⟨rfl, hw1⟩; have hw2 := hw1.symm; clear hw1; subst hw2)
      | (go_at_call 78; refine (krNought (by assumption) _).mono ?_; rintro e wz ⟨rfl, hw1⟩; have hw2 := hw1.symm; clear hw1; subst hw2))
    go_ret2
    exact ⟨rfl, Below.refl _ _⟩

theorem krcmp4bf (a b : Nat) (ha : a < 2 ^ 64) (hb : b < 2 ^ 64) (w : World) (na : nanW a = false) (nb : nanW b = false) (hz : zeroW a = false ∨ (zeroW a = true ∧ zeroW b = false)) (sa : isNeg a = false) (sb : isNeg b = false) (ia : isInfW a = true) (ib : isInfW b = false) : Kb 97 #[wd a, wd b] w (.tuple #[.int .i64 1, .bool true]) := by
  rcases hz with za | ⟨za, zb⟩
  all_goals
    go_enter Tryz.func97, Tryz.ntmps97
    go_wp2_with (first
      | (go_at_call 48; refine (krNaN (by assumption) _).mono ?_; rintro e wz ⟨rfl, hw1⟩; have hw2 := hw1.symm; clear hw1; subst hw2)
      | (go_at_call 81; refine (krInfQ (by assumption) _).mono ?_; rintro e wz ⟨rfl, hw1⟩; have hw2 := hw1.symm; clear hw1; subst hw2)
      | (go_at_call 80; refine (krNeg0 (by assumption) _).mono ?_; rintro e wz ⟨rfl, hw1⟩; have hw2 := hw1.symm; clear hw1; subst hw2)
      | (go_at_call 78; refine (krNought (by assumption) _).mono ?_; rintro e wz ⟨rfl, hw1⟩; have hw2 := hw1.symm; clear hw1; subst hw2))
    go_ret2
    exact ⟨rfl, Below.refl _ _⟩

theorem krcmp4ct (a b : Nat) (ha : a < 2 ^ 64) (hb : b < 2 ^ 64) (w : World) (na : nanW a = false) (nb : nanW b = false) (hz : zeroW a = false ∨ (zeroW a = true ∧ zeroW b = false)) (sa : isNeg a = true) (sb : isNeg b = true) (ia : isInfW a = false) (ib : isInfW b = true) : Kb 97 #[wd a, wd b] w (.tuple #[.int .i64 1, .bool true]) := by
  rcases hz with za | ⟨za, zb⟩
  all_goals
    go_enter Tryz.func97, Tryz.ntmps97
    go_wp2_with (first
      | (go_at_call 48; refine (krNaN (by assumption) _).mono ?_; rintro e wz ⟨rfl, hw1⟩; have hw2 := hw1.symm; clear hw1; subst hw2)
      | (go_at_call 81; refine (krInfQ (by assumption) _).mono ?_; rintro e wz ⟨rfl, hw1⟩; have hw2 := hw1.symm; clear hw1; subst hw2)
      | (go_at_call 80; refine (krNeg0 (by assumption) _).mono ?_; rintro e wz ⟨rfl, hw1⟩; have hw2 := hw1.symm; clear hw1; subst hw2)
      | (go_at_call 78; refine (krNought (by assumption) _).mono ?_; rintro e wz ⟨rfl, hw1⟩; have hw2 := hw1.symm; clear hw1; subst hw2))
    go_ret2
    exact ⟨rfl, Below.refl _ _⟩

theorem krcmp4cf (a b : Nat) (ha : a < 2 ^ 64) (hb : b < 2 ^ 64) (w : World) (na : nanW a = false) (nb : nanW b = false) (hz : zeroW a = false ∨ (zeroW a = true ∧ zeroW b = false)) (sa : isNeg a = false) (sb : isNeg b = false) (ia : isInfW a = false) (ib : isInfW b = true) : Kb 97 #[wd a, wd b] w (.tuple #[.int .i64 (-1), .bool true]) := by
  rcases hz with za | ⟨za, zb⟩
  all_goals
    go_enter Tryz.func97, Tryz.ntmps97
    go_wp2_with (first
      | (go_at_call 48; refine (krNaN (by assumption) _).mono ?_; rintro e wz ⟨rfl, hw1⟩; have hw2 := hw1.symm; clear hw1; subst hw2)
      | (go_at_call 81; refine (krInfQ (by assumption) _).mono ?_; rintro e wz ⟨rfl, hw1⟩; have hw2 := hw1.symm; clear hw1; subst hw2)
      | (go_at_call 80; refine (krNeg0 (by assumption) _).mono ?_; rintro e wz ⟨rfl, hw1⟩; have hw2 := hw1.symm; clear hw1; subst hw2)
      | (go_at_call 78; refine (krNought (by assumption) _).mono ?_; rintro e wz ⟨rfl, hw1⟩; have hw2 := hw1.symm; clear hw1; subst hw2))
    go_ret2
    exact ⟨rfl, Below.refl _ _⟩

theorem krcmp5t (a b X Y : Nat) (e Z : Int) (ha : a < 2 ^ 64) (hb : b < 2 ^ 64) (w : World) (na : nanW a = false) (nb : nanW b = false) (hz : zeroW a = false ∨ (zeroW a = true ∧ zeroW b = false)) (sa : isNeg a = true) (sb : isNeg b = true) (ia : isInfW a = false) (ib : isInfW b = false)
    (kl : Calls Tryz.prog 109 #[wd a, wd b] w fun x w' => ∃ u u', x = .returned (.tuple #[u, u', .int .i64 e]) ∧ Bg w.heap.size w' u X ∧ Bg w.heap.size w' u' Y ∧ Below w.heap.size w w') (hZ : cmpN X Y = Z) (hZb : -1 ≤ Z ∧ Z ≤ 1) : Kb 97 #[wd a, wd b] w (.tuple #[.int .i64 (-Z), .bool true]) := by
  have KL := Lib.hid kl
  have HZ := Lib.hid hZ
  clear kl hZ
  rcases hz with za | ⟨za, zb⟩
  all_goals
    go_enter Tryz.func97, Tryz.ntmps97
    go_wp2_with (first
      | (go_at_call 48; refine (krNaN (by assumption) _).mono ?_; rintro e wz ⟨rfl, hw1⟩; have hw2 := hw1.symm; clear hw1; subst hw2)
      | (go_at_call 81; refine (krInfQ (by assumption) _).mono ?_; rintro e wz ⟨rfl, hw1⟩; have hw2 := hw1.symm; clear hw1; subst hw2)
      | (go_at_call 80; refine (krNeg0 (by assumption) _).mono ?_; rintro e wz ⟨rfl, hw1⟩; have hw2 := hw1.symm; clear hw1; subst hw2)
      | (go_at_call 78; refine (krNought (by assumption) _).mono ?_; rintro e wz ⟨rfl, hw1⟩; have hw2 := hw1.symm; clear hw1; subst hw2)
      | (go_at_call 109; refine (KL.out).mono ?_; rintro e w3 ⟨p3, p3', rfl, k3, k3', b3⟩; have K3 := Lib.hid k3; have K3' := Lib.hid k3'; have B3 := Lib.hid b3; clear k3 k3' b3)
      | (go_at_call 99; refine (kless K3.out K3'.out).mono ?_; rw [HZ.out]; rintro e w4 ⟨rfl, n4, hw⟩; have B4 := Lib.hid (show Below w.heap.size w w4 by rw [hw]; exact B3.out.trans (drew_below _ _ _)); clear hw))
    go_ret2
    exact ⟨by rfl, B4.out⟩

theorem krcmp5f (a b X Y : Nat) (e Z : Int) (ha : a < 2 ^ 64) (hb : b < 2 ^ 64) (w : World) (na : nanW a = false) (nb : nanW b = false) (hz : zeroW a = false ∨ (zeroW a = true ∧ zeroW b = false)) (sa : isNeg a = false) (sb : isNeg b = false) (ia : isInfW a = false) (ib : isInfW b = false)
    (kl : Calls Tryz.prog 109 #[wd a, wd b] w fun x w' => ∃ u u', x = .returned (.tuple #[u, u', .int .i64 e]) ∧ Bg w.heap.size w' u X ∧ Bg w.heap.size w' u' Y ∧ Below w.heap.size w w') (hZ : cmpN X Y = Z) (hZb : -1 ≤ Z ∧ Z ≤ 1) : Kb 97 #[wd a, wd b] w (.tuple #[.int .i64 (Z), .bool true]) := by
  have KL := Lib.hid kl
  have HZ := Lib.hid hZ
  clear kl hZ
  rcases hz with za | ⟨za, zb⟩
  all_goals
    go_enter Tryz.func97, Tryz.ntmps97
    go_wp2_with (first
      | (go_at_call 48; refine (krNaN (by assumption) _).mono ?_; rintro e wz ⟨rfl, hw1⟩; have hw2 := hw1.symm; clear hw1; subst hw2)
      | (go_at_call 81; refine (krInfQ (by assumption) _).mono ?_; rintro e wz ⟨rfl, hw1⟩; have hw2 := hw1.symm; clear hw1; subst hw2)
      | (go_at_call 80; refine (krNeg0 (by assumption) _).mono ?_; rintro e wz ⟨rfl, hw1⟩; have hw2 := hw1.symm; clear hw1; subst hw2)
      | (go_at_call 78; refine (krNought (by assumption) _).mono ?_; rintro e wz ⟨rfl, hw1⟩; have hw2 := hw1.symm; clear hw1; subst hw2)
      | (go_at_call 109; refine (KL.out).mono ?_; rintro e w3 ⟨p3, p3', rfl, k3, k3', b3⟩; have K3 := Lib.hid k3; have K3' := Lib.hid k3'; have B3 := Lib.hid b3; clear k3 k3' b3)
      | (go_at_call 99; refine (kless K3.out K3'.out).mono ?_; rw [HZ.out]; rintro e w4 ⟨rfl, n4, hw⟩; have B4 := Lib.hid (show Below w.heap.size w w4 by rw [hw]; exact B3.out.trans (drew_below _ _ _)); clear hw))
    go_ret2
    exact ⟨by rfl, B4.out⟩

end Go.Proofs.YtoodbdjmbicaeaaGreat
