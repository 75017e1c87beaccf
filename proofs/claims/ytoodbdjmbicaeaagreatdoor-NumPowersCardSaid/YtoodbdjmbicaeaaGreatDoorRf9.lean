/- The document's Whole. No condition. -/
import Derived.Test.YtoodbdjmbicaeaaGreatDoorRf8
namespace Go.Proofs.YtoodbdjmbicaeaaGreatDoor
open Go.RowKit
set_option maxRecDepth 8000
set_option maxHeartbeats 1000000
set_option linter.unusedVariables false
set_option linter.unusedSimpArgs false

theorem kw1 {a : Nat} (ha : a < 2 ^ 64) (na : nanW a = true) (w : World) : Kb 38 #[wd a] w (.tuple #[.int .i64 0, .bool false]) := by
  go_enter Tryz.func38, Tryz.ntmps38
  go_wp2_with (first
    | (go_at_call 30; refine (krNaN (by assumption) _).mono ?_; rintro e wz ⟨rfl, hw1⟩; have hw2 := hw1.symm; clear hw1; subst hw2)
    | (go_at_call 31; refine (krInfQ (by assumption) _).mono ?_; rintro e wz ⟨rfl, hw1⟩; have hw2 := hw1.symm; clear hw1; subst hw2)
    | (go_at_call 37; refine (krNeg0 (by assumption) _).mono ?_; rintro e wz ⟨rfl, hw1⟩; have hw2 := hw1.symm; clear hw1; subst hw2)
    | (go_at_call 29; refine (krNought (by assumption) _).mono ?_; rintro e wz ⟨rfl, hw1⟩; have hw2 := hw1.symm; clear hw1; subst hw2))
  go_ret2
  exact ⟨rfl, Below.refl _ _⟩
theorem kw2 {a : Nat} (ha : a < 2 ^ 64) (na : nanW a = false) (ia : isInfW a = true) (w : World) : Kb 38 #[wd a] w (.tuple #[.int .i64 0, .bool false]) := by
  go_enter Tryz.func38, Tryz.ntmps38
  go_wp2_with (first
    | (go_at_call 30; refine (krNaN (by assumption) _).mono ?_; rintro e wz ⟨rfl, hw1⟩; have hw2 := hw1.symm; clear hw1; subst hw2)
    | (go_at_call 31; refine (krInfQ (by assumption) _).mono ?_; rintro e wz ⟨rfl, hw1⟩; have hw2 := hw1.symm; clear hw1; subst hw2)
    | (go_at_call 37; refine (krNeg0 (by assumption) _).mono ?_; rintro e wz ⟨rfl, hw1⟩; have hw2 := hw1.symm; clear hw1; subst hw2)
    | (go_at_call 29; refine (krNought (by assumption) _).mono ?_; rintro e wz ⟨rfl, hw1⟩; have hw2 := hw1.symm; clear hw1; subst hw2))
  go_ret2
  exact ⟨rfl, Below.refl _ _⟩

theorem kw3 {a Q : Nat} (ha : a < 2 ^ 64) (na : nanW a = false) (ia : isInfW a = false) (w : World) (kw : Calls Tryz.prog 72 #[wd a] w fun e w' => ∃ u, e = .returned (.tuple #[u, .bool true]) ∧ Bg w.heap.size w' u Q ∧ Below w.heap.size w w') : Kb 38 #[wd a] w (.tuple #[.int .i64 0, .bool false]) := by
  have KW := Lib.hid kw
  clear kw
  go_enter Tryz.func38, Tryz.ntmps38
  go_wp2_with (first
    | (go_at_call 72; refine (KW.out).mono ?_; rintro e w3 ⟨p3, rfl, k3, b3⟩; have K3 := Lib.hid k3; have B3 := Lib.hid b3; clear k3 b3)
    | (go_at_call 30; refine (krNaN (by assumption) _).mono ?_; rintro e wz ⟨rfl, hw1⟩; have hw2 := hw1.symm; clear hw1; subst hw2)
    | (go_at_call 31; refine (krInfQ (by assumption) _).mono ?_; rintro e wz ⟨rfl, hw1⟩; have hw2 := hw1.symm; clear hw1; subst hw2)
    | (go_at_call 37; refine (krNeg0 (by assumption) _).mono ?_; rintro e wz ⟨rfl, hw1⟩; have hw2 := hw1.symm; clear hw1; subst hw2)
    | (go_at_call 29; refine (krNought (by assumption) _).mono ?_; rintro e wz ⟨rfl, hw1⟩; have hw2 := hw1.symm; clear hw1; subst hw2))
  go_ret2
  exact ⟨rfl, B3.out⟩
theorem kw4 {a Q : Nat} (ha : a < 2 ^ 64) (na : nanW a = false) (ia : isInfW a = false) (w : World) (kw : Calls Tryz.prog 72 #[wd a] w fun e w' => ∃ u, e = .returned (.tuple #[u, .bool false]) ∧ Bg w.heap.size w' u Q ∧ Below w.heap.size w w') (hq : 64 < size Q) : Kb 38 #[wd a] w (.tuple #[.int .i64 0, .bool false]) := by
  have KW := Lib.hid kw
  obtain ⟨z, hz⟩ : ∃ z, size Q = z := ⟨_, rfl⟩
  rw [hz] at hq
  have HZ := Lib.hid hz
  have hz1 : (64 : Int) < (z : Int) := by omega
  clear kw hz hq
  go_enter Tryz.func38, Tryz.ntmps38
  go_wp2_with (first
    | (go_at_call 73; refine (kbsize K3.out).mono ?_; rw [HZ.out]; rintro e wz ⟨rfl, hw1⟩; have hw2 := hw1.symm; clear hw1; subst hw2)
    | (go_at_call 72; refine (KW.out).mono ?_; rintro e w3 ⟨p3, rfl, k3, b3⟩; have K3 := Lib.hid k3; have B3 := Lib.hid b3; clear k3 b3)
    | (go_at_call 30; refine (krNaN (by assumption) _).mono ?_; rintro e wz ⟨rfl, hw1⟩; have hw2 := hw1.symm; clear hw1; subst hw2)
    | (go_at_call 31; refine (krInfQ (by assumption) _).mono ?_; rintro e wz ⟨rfl, hw1⟩; have hw2 := hw1.symm; clear hw1; subst hw2)
    | (go_at_call 37; refine (krNeg0 (by assumption) _).mono ?_; rintro e wz ⟨rfl, hw1⟩; have hw2 := hw1.symm; clear hw1; subst hw2)
    | (go_at_call 29; refine (krNought (by assumption) _).mono ?_; rintro e wz ⟨rfl, hw1⟩; have hw2 := hw1.symm; clear hw1; subst hw2))
  go_ret2
  exact ⟨rfl, B3.out⟩

theorem kw5 {a Q : Nat} (ha : a < 2 ^ 64) (na : nanW a = false) (ia : isInfW a = false) (w : World) (kw : Calls Tryz.prog 72 #[wd a] w fun e w' => ∃ u, e = .returned (.tuple #[u, .bool false]) ∧ Bg w.heap.size w' u Q ∧ Below w.heap.size w w') (hq : Q < 2 ^ 64) (ga : isNeg a = true) (hc : 9223372036854775808 < Q) : Kb 38 #[wd a] w (.tuple #[.int .i64 (0), .bool false]) := by
  have KW := Lib.hid kw
  obtain ⟨z, hz⟩ : ∃ z, size Q = z := ⟨_, rfl⟩
  have HZ := Lib.hid hz
  have hz1 : ¬ (64 : Int) < (z : Int) := by have := size_le.2 hq; omega
  have HL := Lib.hid (show Q % 2 ^ 64 = Q from Nat.mod_eq_of_lt hq)
  obtain ⟨qz, hqz⟩ : ∃ qz : Int, (Q : Int) = qz := ⟨_, rfl⟩
  have c1 : 9223372036854775808 < qz := by omega
  have HQZ := Lib.hid hqz
  have HC := Lib.hid hc
  have HQQ := Lib.hid hq
  clear kw hz hc hq
  go_enter Tryz.func38, Tryz.ntmps38
  go_wp2_with (first
    | (go_at_call 74; refine (klow K3.out).mono ?_; rw [HL.out]; rintro e wz ⟨rfl, hw1⟩; have hw2 := hw1.symm; clear hw1; subst hw2)
    | (go_at_call 73; refine (kbsize K3.out).mono ?_; rw [HZ.out]; rintro e wz ⟨rfl, hw1⟩; have hw2 := hw1.symm; clear hw1; subst hw2)
    | (go_at_call 72; refine (KW.out).mono ?_; rintro e w3 ⟨p3, rfl, k3, b3⟩; have K3 := Lib.hid k3; have B3 := Lib.hid b3; clear k3 b3)
    | (go_at_call 30; refine (krNaN (by assumption) _).mono ?_; rintro e wz ⟨rfl, hw1⟩; have hw2 := hw1.symm; clear hw1; subst hw2)
    | (go_at_call 31; refine (krInfQ (by assumption) _).mono ?_; rintro e wz ⟨rfl, hw1⟩; have hw2 := hw1.symm; clear hw1; subst hw2)
    | (go_at_call 37; refine (krNeg0 (by assumption) _).mono ?_; rintro e wz ⟨rfl, hw1⟩; have hw2 := hw1.symm; clear hw1; subst hw2)
    | (go_at_call 29; refine (krNought (by assumption) _).mono ?_; rintro e wz ⟨rfl, hw1⟩; have hw2 := hw1.symm; clear hw1; subst hw2))
  go_ret2
  exact ⟨by first | rfl | (rw [HQZ.out]; rfl), B3.out⟩

theorem kw6 {a Q : Nat} (ha : a < 2 ^ 64) (na : nanW a = false) (ia : isInfW a = false) (w : World) (kw : Calls Tryz.prog 72 #[wd a] w fun e w' => ∃ u, e = .returned (.tuple #[u, .bool false]) ∧ Bg w.heap.size w' u Q ∧ Below w.heap.size w w') (hq : Q < 2 ^ 64) (ga : isNeg a = true) (hc : Q ≤ 9223372036854775808) : Kb 38 #[wd a] w (.tuple #[.int .i64 (-(Q : Int)), .bool true]) := by
  have KW := Lib.hid kw
  obtain ⟨z, hz⟩ : ∃ z, size Q = z := ⟨_, rfl⟩
  have HZ := Lib.hid hz
  have hz1 : ¬ (64 : Int) < (z : Int) := by have := size_le.2 hq; omega
  have HL := Lib.hid (show Q % 2 ^ 64 = Q from Nat.mod_eq_of_lt hq)
  obtain ⟨qz, hqz⟩ : ∃ qz : Int, (Q : Int) = qz := ⟨_, rfl⟩
  have c1 : ¬ 9223372036854775808 < qz := by omega
  have c2 : IntKind.i64.wrap (IntKind.u64.wrap (-qz)) = -qz := by rw [IntKind.wrap_u64]; unfold IntKind.wrap; simp [IntKind.signed, IntKind.bits]; omega
  have HQZ := Lib.hid hqz
  have HC := Lib.hid hc
  have HQQ := Lib.hid hq
  clear kw hz hc hq
  go_enter Tryz.func38, Tryz.ntmps38
  go_wp2_with (first
    | (go_at_call 74; refine (klow K3.out).mono ?_; rw [HL.out]; rintro e wz ⟨rfl, hw1⟩; have hw2 := hw1.symm; clear hw1; subst hw2)
    | (go_at_call 73; refine (kbsize K3.out).mono ?_; rw [HZ.out]; rintro e wz ⟨rfl, hw1⟩; have hw2 := hw1.symm; clear hw1; subst hw2)
    | (go_at_call 72; refine (KW.out).mono ?_; rintro e w3 ⟨p3, rfl, k3, b3⟩; have K3 := Lib.hid k3; have B3 := Lib.hid b3; clear k3 b3)
    | (go_at_call 30; refine (krNaN (by assumption) _).mono ?_; rintro e wz ⟨rfl, hw1⟩; have hw2 := hw1.symm; clear hw1; subst hw2)
    | (go_at_call 31; refine (krInfQ (by assumption) _).mono ?_; rintro e wz ⟨rfl, hw1⟩; have hw2 := hw1.symm; clear hw1; subst hw2)
    | (go_at_call 37; refine (krNeg0 (by assumption) _).mono ?_; rintro e wz ⟨rfl, hw1⟩; have hw2 := hw1.symm; clear hw1; subst hw2)
    | (go_at_call 29; refine (krNought (by assumption) _).mono ?_; rintro e wz ⟨rfl, hw1⟩; have hw2 := hw1.symm; clear hw1; subst hw2))
  go_ret2
  exact ⟨by first | rfl | (rw [HQZ.out]; rfl), B3.out⟩

theorem kw7 {a Q : Nat} (ha : a < 2 ^ 64) (na : nanW a = false) (ia : isInfW a = false) (w : World) (kw : Calls Tryz.prog 72 #[wd a] w fun e w' => ∃ u, e = .returned (.tuple #[u, .bool false]) ∧ Bg w.heap.size w' u Q ∧ Below w.heap.size w w') (hq : Q < 2 ^ 64) (ga : isNeg a = false) (hc : 9223372036854775808 ≤ Q) : Kb 38 #[wd a] w (.tuple #[.int .i64 (0), .bool false]) := by
  have KW := Lib.hid kw
  obtain ⟨z, hz⟩ : ∃ z, size Q = z := ⟨_, rfl⟩
  have HZ := Lib.hid hz
  have hz1 : ¬ (64 : Int) < (z : Int) := by have := size_le.2 hq; omega
  have HL := Lib.hid (show Q % 2 ^ 64 = Q from Nat.mod_eq_of_lt hq)
  obtain ⟨qz, hqz⟩ : ∃ qz : Int, (Q : Int) = qz := ⟨_, rfl⟩
  have c1 : 9223372036854775808 ≤ qz := by omega
  have HQZ := Lib.hid hqz
  have HC := Lib.hid hc
  have HQQ := Lib.hid hq
  clear kw hz hc hq
  go_enter Tryz.func38, Tryz.ntmps38
  go_wp2_with (first
    | (go_at_call 74; refine (klow K3.out).mono ?_; rw [HL.out]; rintro e wz ⟨rfl, hw1⟩; have hw2 := hw1.symm; clear hw1; subst hw2)
    | (go_at_call 73; refine (kbsize K3.out).mono ?_; rw [HZ.out]; rintro e wz ⟨rfl, hw1⟩; have hw2 := hw1.symm; clear hw1; subst hw2)
    | (go_at_call 72; refine (KW.out).mono ?_; rintro e w3 ⟨p3, rfl, k3, b3⟩; have K3 := Lib.hid k3; have B3 := Lib.hid b3; clear k3 b3)
    | (go_at_call 30; refine (krNaN (by assumption) _).mono ?_; rintro e wz ⟨rfl, hw1⟩; have hw2 := hw1.symm; clear hw1; subst hw2)
    | (go_at_call 31; refine (krInfQ (by assumption) _).mono ?_; rintro e wz ⟨rfl, hw1⟩; have hw2 := hw1.symm; clear hw1; subst hw2)
    | (go_at_call 37; refine (krNeg0 (by assumption) _).mono ?_; rintro e wz ⟨rfl, hw1⟩; have hw2 := hw1.symm; clear hw1; subst hw2)
    | (go_at_call 29; refine (krNought (by assumption) _).mono ?_; rintro e wz ⟨rfl, hw1⟩; have hw2 := hw1.symm; clear hw1; subst hw2))
  go_ret2
  exact ⟨by first | rfl | (rw [HQZ.out]; rfl), B3.out⟩

theorem kw8 {a Q : Nat} (ha : a < 2 ^ 64) (na : nanW a = false) (ia : isInfW a = false) (w : World) (kw : Calls Tryz.prog 72 #[wd a] w fun e w' => ∃ u, e = .returned (.tuple #[u, .bool false]) ∧ Bg w.heap.size w' u Q ∧ Below w.heap.size w w') (hq : Q < 2 ^ 64) (ga : isNeg a = false) (hc : Q < 9223372036854775808) : Kb 38 #[wd a] w (.tuple #[.int .i64 ((Q : Int)), .bool true]) := by
  have KW := Lib.hid kw
  obtain ⟨z, hz⟩ : ∃ z, size Q = z := ⟨_, rfl⟩
  have HZ := Lib.hid hz
  have hz1 : ¬ (64 : Int) < (z : Int) := by have := size_le.2 hq; omega
  have HL := Lib.hid (show Q % 2 ^ 64 = Q from Nat.mod_eq_of_lt hq)
  obtain ⟨qz, hqz⟩ : ∃ qz : Int, (Q : Int) = qz := ⟨_, rfl⟩
  have c1 : ¬ 9223372036854775808 ≤ qz := by omega
  have c2 : IntKind.i64.wrap qz = qz := by unfold IntKind.wrap; simp [IntKind.signed, IntKind.bits]; omega
  have HQZ := Lib.hid hqz
  have HC := Lib.hid hc
  have HQQ := Lib.hid hq
  clear kw hz hc hq
  go_enter Tryz.func38, Tryz.ntmps38
  go_wp2_with (first
    | (go_at_call 74; refine (klow K3.out).mono ?_; rw [HL.out]; rintro e wz ⟨rfl, hw1⟩; have hw2 := hw1.symm; clear hw1; subst hw2)
    | (go_at_call 73; refine (kbsize K3.out).mono ?_; rw [HZ.out]; rintro e wz ⟨rfl, hw1⟩; have hw2 := hw1.symm; clear hw1; subst hw2)
    | (go_at_call 72; refine (KW.out).mono ?_; rintro e w3 ⟨p3, rfl, k3, b3⟩; have K3 := Lib.hid k3; have B3 := Lib.hid b3; clear k3 b3)
    | (go_at_call 30; refine (krNaN (by assumption) _).mono ?_; rintro e wz ⟨rfl, hw1⟩; have hw2 := hw1.symm; clear hw1; subst hw2)
    | (go_at_call 31; refine (krInfQ (by assumption) _).mono ?_; rintro e wz ⟨rfl, hw1⟩; have hw2 := hw1.symm; clear hw1; subst hw2)
    | (go_at_call 37; refine (krNeg0 (by assumption) _).mono ?_; rintro e wz ⟨rfl, hw1⟩; have hw2 := hw1.symm; clear hw1; subst hw2)
    | (go_at_call 29; refine (krNought (by assumption) _).mono ?_; rintro e wz ⟨rfl, hw1⟩; have hw2 := hw1.symm; clear hw1; subst hw2))
  go_ret2
  exact ⟨by first | rfl | (rw [HQZ.out]; rfl), B3.out⟩

theorem krWhole {a : Nat} (ha : a < 2 ^ 64) (w : World) : Kb 38 #[wd a] w (.tuple #[.int .i64 (wholeN a), .bool (wholeK a)]) := by
  cases na : nanW a
  · by_cases hi : rung a = infR
    · have hk : wholeK a = false := by unfold wholeK; rw [decide_eq_false (by omega)]; rfl
      have hv : wholeN a = 0 := by unfold wholeN; rw [hk]; rfl
      rw [hk, hv]
      exact kw2 ha na (infT hi) w
    · have hf : rung a < infR := by have := nan_false na; omega
      have KW := krwhole ha hf w
      have ia := infF hi
      by_cases hr : val (rung a) % U1 = 0
      · have e : (val (rung a) % U1 != 0) = false := by rw [hr]; rfl
        rw [e] at KW
        have hsv : sv a = if isNeg a then -((val (rung a) / U1 : Nat) : Int) else ((val (rung a) / U1 : Nat) : Int) := rfl
        obtain ⟨Q, hQ⟩ : ∃ Q, val (rung a) / U1 = Q := ⟨_, rfl⟩
        rw [hQ] at KW hsv
        have bad : ¬ (-9223372036854775808 ≤ sv a ∧ sv a < 9223372036854775808) → wholeK a = false ∧ wholeN a = 0 := by
          intro h
          have hk : wholeK a = false := by
            unfold wholeK
            by_cases h1 : -9223372036854775808 ≤ sv a
            · rw [decide_eq_false (show ¬ sv a < 9223372036854775808 from fun h2 => h ⟨h1, h2⟩)]; simp
            · rw [decide_eq_false h1]; simp
          exact ⟨hk, by unfold wholeN; rw [hk]; rfl⟩
        have good : (-9223372036854775808 ≤ sv a ∧ sv a < 9223372036854775808) → wholeK a = true ∧ wholeN a = sv a := by
          intro h
          have hk : wholeK a = true := by unfold wholeK; rw [decide_eq_true hf, decide_eq_true hr, decide_eq_true h.1, decide_eq_true h.2]; rfl
          exact ⟨hk, by unfold wholeN; rw [hk]; rfl⟩
        by_cases h64 : Q < 2 ^ 64
        · cases ga : isNeg a
          · rw [ga, if_neg (by decide)] at hsv
            by_cases hc : Q < 9223372036854775808
            · obtain ⟨g1, g2⟩ := good (by omega)
              rw [g1, g2, hsv]
              exact kw8 ha na ia w KW h64 ga hc
            · obtain ⟨g1, g2⟩ := bad (by omega)
              rw [g1, g2]
              exact kw7 ha na ia w KW h64 ga (by omega)
          · rw [ga, if_pos rfl] at hsv
            by_cases hc : Q ≤ 9223372036854775808
            · obtain ⟨g1, g2⟩ := good (by omega)
              rw [g1, g2, hsv]
              exact kw6 ha na ia w KW h64 ga hc
            · obtain ⟨g1, g2⟩ := bad (by omega)
              rw [g1, g2]
              exact kw5 ha na ia w KW h64 ga (by omega)
        · obtain ⟨g1, g2⟩ := bad (by rw [hsv]; split <;> omega)
          rw [g1, g2]
          exact kw4 ha na ia w KW (Nat.lt_of_not_le fun h => h64 (size_le.1 h))
      · have e : (val (rung a) % U1 != 0) = true := bne_iff_ne.2 hr
        rw [e] at KW
        have hk : wholeK a = false := by unfold wholeK; rw [decide_eq_false hr]; simp
        have hv : wholeN a = 0 := by unfold wholeN; rw [hk]; rfl
        rw [hk, hv]
        exact kw3 ha na ia w KW
  · have hk : wholeK a = false := by unfold wholeK; have := of_decide_eq_true na; rw [decide_eq_false (by omega)]; rfl
    have hv : wholeN a = 0 := by unfold wholeN; rw [hk]; rfl
    rw [hk, hv]
    exact kw1 ha na w
end Go.Proofs.YtoodbdjmbicaeaaGreatDoor
