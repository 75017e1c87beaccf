/- A float scaled by a power of two. No condition. -/
import Derived.Test.YtoodbdjmbicaeaaGreatDoorFx2
import Derived.Test.YtoodbdjmbicaeaaGreatDoorP3
namespace Go.Proofs.YtoodbdjmbicaeaaGreatDoor
open Go.RowKit
set_option maxRecDepth 20000
set_option maxHeartbeats 2000000
set_option linter.unusedVariables false
set_option linter.unusedSimpArgs false

theorem kcopy {y : Nat} (hy : y < 2 ^ 64) (w : World) : Kp 102 #[.float .f64 0, .float .f64 y] w (.float .f64 (Ieee.double.word (isNeg y) 0)) := by
  have h := andSign hy
  have h1 : bits .andNot .u64 0 9223372036854775808 = 0 := by decide
  have hc0 : (callFunc 89 #[.float .f64 0]).run Tryz.prog w = .ok (.value (.int .u64 0)) w := callBits 0 w
  cases hs : isNeg y
  · rw [hs] at h
    have h2 : bits .or .u64 0 0 = 0 := by decide
    have hf : (callFunc 58 #[.int .u64 0]).run Tryz.prog w = .ok (.value (.float .f64 0)) w := callFromBits 0 w
    rw [show Ieee.double.word false 0 = 0 by decide]
    go_enter Tryz.func102, Tryz.ntmps102
    go_wp2
    go_ret
    exact ⟨rfl, rfl⟩
  · rw [hs] at h
    have h2 : bits .or .u64 0 9223372036854775808 = 9223372036854775808 := by decide
    have hf : (callFunc 58 #[.int .u64 9223372036854775808]).run Tryz.prog w = .ok (.value (.float .f64 9223372036854775808)) w := callFromBits 9223372036854775808 w
    rw [show Ieee.double.word true 0 = 9223372036854775808 by decide]
    go_enter Tryz.func102, Tryz.ntmps102
    go_wp2
    go_ret
    exact ⟨rfl, rfl⟩
theorem and_lowI (x : Nat) (hx : x < 2 ^ 62) : bits .and .i64 (x : Int) 2047 = ((x % 2048 : Nat) : Int) := by
  show IntKind.i64.wrap ((BitVec.ofInt 64 (x : Int) &&& BitVec.ofInt 64 (2047 : Int)).toNat : Int) = _
  rw [BitVec.toNat_and, toNat_of x (by omega), show (BitVec.ofInt 64 (2047 : Int)).toNat = 2 ^ 11 - 1 by decide, Nat.and_two_pow_sub_one_eq_mod]
  have : x % 2 ^ 11 < 2048 := Nat.mod_lt _ (by decide)
  unfold IntKind.wrap
  simp [IntKind.signed, IntKind.bits]
  omega
theorem shift_eq {F f : Nat} (h : 1 ≤ F) : (F - 1) * 2 ^ 52 + (2 ^ 52 + f) = F * 2 ^ 52 + f := by omega
theorem kldexp0 {x : Nat} {n : Int} (hx : x < 2 ^ 64) (hf : rung x < infR) (h0 : rung x ≠ 0) (hnb : -100000 ≤ n ∧ n ≤ 100000) (w : World) :
    Kn 106 #[.float .f64 x, .int .i64 n] w (.float .f64 (ldW x n)) := by
  have hn : nanW x = false := nan_of (by omega)
  have ia : isInfW x = false := by unfold isInfW; simp; omega
  have hz := eqZero hn h0
  obtain ⟨a1, a2, a3, a4, a5, a6⟩ := nr_spec h0 hf
  have hi := infR_eq
  have K := Lib.hid (knormal hx hf h0 w)
  have KI := Lib.hid (kminf hx w)
  rw [ia] at KI
  have KN := Lib.hid (kmnan x w)
  rw [hn] at KN
  have hmask := andNotMask (s := isNeg x) (R := nrR (rung x)) (by omega)
  rw [a3] at hmask
  have hexp := expBits (s := isNeg x) (R := nrR (rung x)) (by omega)
  have hwl : Ieee.double.word (isNeg x) (nrR (rung x)) < 2 ^ 64 := word_lt' (by omega)
  have hYs : isNeg (Ieee.double.word (isNeg x) (nrR (rung x))) = isNeg x := isNeg_word (by omega)
  have hYr : rung (Ieee.double.word (isNeg x) (nrR (rung x))) = nrR (rung x) := rung_word (by omega)
  have hYz := eqZero (x := Ieee.double.word (isNeg x) (nrR (rung x))) (nan_word (by omega)) (by rw [hYr]; omega)
  have hYo := ord_zero (a := Ieee.double.word (isNeg x) (nrR (rung x))) (nan_word (by omega))
  rw [hYr, hYs] at hYo
  have KC := fun W => kcopy hwl W
  rw [hYs] at KC
  have hlow := ld_low (n := n) h0
  have hhigh := ld_high (n := n) h0
  have hmid := fun L => ld_mid (n := n) (L := L) h0 a5
  have hsub := fun L => ld_sub (n := n) (L := L) h0 a5
  have hor := fun F (h : F < 2047) => or_exp (isNeg x) (F := F) (f := frv (rung x)) h a5
  unfold ldW
  obtain ⟨s, hs⟩ : ∃ s, isNeg x = s := ⟨_, rfl⟩
  obtain ⟨f, hff⟩ : ∃ f, frv (rung x) = f := ⟨_, rfl⟩
  rw [hs] at hmask hexp hwl hYo hYz KC hor K ⊢
  rw [hff] at hmask hor hmid hsub a5
  obtain ⟨Y, hY⟩ : ∃ Y, Ieee.double.word s (nrR (rung x)) = Y := ⟨_, rfl⟩
  obtain ⟨Z, hZ⟩ : ∃ Z, Ieee.double.word s f = Z := ⟨_, rfl⟩
  rw [hY, hZ] at hmask
  rw [hY] at hexp K hwl hYo hYz KC
  obtain ⟨E, hE⟩ : ∃ E, nrE (rung x) = E := ⟨_, rfl⟩
  rw [hE] at K a4
  have hEb2 : -52 ≤ E ∧ E ≤ 0 := by rw [← hE]; unfold nrE; split <;> simp
  obtain ⟨B, hB⟩ : ∃ B, nrR (rung x) / 2 ^ 52 = B := ⟨_, rfl⟩
  rw [hB] at hexp a4
  obtain ⟨A, hA⟩ : ∃ A, Y / 2 ^ 52 = A := ⟨_, rfl⟩
  rw [hA] at hexp
  obtain ⟨lg, hlg⟩ : ∃ lg, lgv (rung x) = lg := ⟨_, rfl⟩
  rw [hlg] at a4 a6 hlow hhigh hmid hsub
  have hBl : B < 2048 := by omega
  have h1 : (Y : Int) / 4503599627370496 = (A : Int) := by omega
  have h2 : bits .and .i64 (A : Int) 2047 = (B : Int) := by rw [and_lowI A (by omega), hexp]
  obtain ⟨Ex, hEx⟩ : ∃ Ex : Int, n + E + ((B : Int) - 1023) = Ex := ⟨_, rfl⟩
  have hEx2 : Ex = n + (lg : Int) - 1074 := by omega
  have hExb : -110000 ≤ Ex ∧ Ex ≤ 110000 := by omega
  rw [← hEx2] at hlow hhigh hmid hsub
  obtain ⟨RR, hRR⟩ : ∃ RR, rnd (mg (rung x)) (-1074 + (pl (rung x) : Int) + n) = RR := ⟨_, rfl⟩
  rw [hRR] at hlow hhigh hmid hsub ⊢
  have KCC := Lib.hid KC
  have hyo : (FloatKind.f64.format.order Y 0 == some .lt) = s := by
    have hne : nrR (rung x) ≠ 0 := by omega
    cases s
    · rw [hYo.2.2 hne rfl]; rfl
    · rw [hYo.2.1 hne rfl]; rfl
  have fl : f < 2 ^ 52 := a5
  clear a1 a2 a3 a4 a5 a6 hexp hY hE hB hA hlg ia h0 hf hn hYs hYr hYo KC hff hs hEx2 hRR
  by_cases c1 : Ex < -1075
  · rw [hlow c1, Nat.zero_min]
    clear hlow hhigh hmid hsub hor hmask hyo hYz hZ
    go_enter Tryz.func106, Tryz.ntmps106
    go_wp2_with (first
      | (go_at_call 102; refine (KCC.out _).mono ?_; rintro e wz ⟨rfl, hw1⟩; have hw2 := hw1.symm; clear hw1; subst hw2)
      | (go_at_call 107; refine (K.out).mono ?_; rintro e wk ⟨rfl, nk, hw1⟩; subst hw1)
      | (go_at_call 55; refine (KN.out).mono ?_; rintro e wz ⟨rfl, hw1⟩; have hw2 := hw1.symm; clear hw1; subst hw2)
      | (go_at_call 56; refine (KI.out).mono ?_; rintro e wz ⟨rfl, hw1⟩; have hw2 := hw1.symm; clear hw1; subst hw2))
    go_ret
    exact ⟨rfl, nk, rfl⟩
  · by_cases c2 : 1023 < Ex
    · rw [hhigh c2]
      have KF := Lib.hid (fun W => kminfs s W)
      clear hlow hhigh hmid hsub hor hmask hYz hZ
      cases s
      all_goals
        go_enter Tryz.func106, Tryz.ntmps106
        go_wp2_with (first
          | (go_at_call 60; refine (KF.out _).mono ?_; rintro e wz ⟨rfl, hw1⟩; have hw2 := hw1.symm; clear hw1; subst hw2)
          | (go_at_call 107; refine (K.out).mono ?_; rintro e wk ⟨rfl, nk, hw1⟩; subst hw1)
          | (go_at_call 55; refine (KN.out).mono ?_; rintro e wz ⟨rfl, hw1⟩; have hw2 := hw1.symm; clear hw1; subst hw2)
          | (go_at_call 56; refine (KI.out).mono ?_; rintro e wz ⟨rfl, hw1⟩; have hw2 := hw1.symm; clear hw1; subst hw2))
        go_ret
        exact ⟨rfl, nk, rfl⟩
    · obtain ⟨F, hF⟩ : ∃ F : Nat, (if Ex < -1022 then Ex + 53 else Ex) + 1023 = (F : Int) := ⟨((if Ex < -1022 then Ex + 53 else Ex) + 1023).toNat, by split <;> omega⟩
      have hFl : F < 2047 := by split at hF <;> omega
      have hF1 : 1 ≤ F := by split at hF <;> omega
      have hor2 := hor F hFl
      obtain ⟨X, hX⟩ : ∃ X, F * 2 ^ 52 = X := ⟨_, rfl⟩
      have hXl : X < 2 ^ 63 := by omega
      obtain ⟨V, hV⟩ : ∃ V, Ieee.double.word s (F * 2 ^ 52 + f) = V := ⟨_, rfl⟩
      have hVr : rung V = F * 2 ^ 52 + f := by rw [← hV]; exact rung_word (by omega)
      have hVs : isNeg V = s := by rw [← hV]; exact isNeg_word (by omega)
      have hVl : V < 2 ^ 64 := by rw [← hV]; exact word_lt' (by omega)
      rw [hV, hX, hZ] at hor2
      have g1 : (F : Int) % 18446744073709551616 = (F : Int) := by omega
      have g2 : (F : Int) * 4503599627370496 = (X : Int) := by omega
      have g3 : (X : Int) % 18446744073709551616 = (X : Int) := by omega
      have fV : rung V < infR := by rw [hVr]; omega
      by_cases c3 : Ex < -1022
      · rw [if_pos c3] at hF
        have hm : Ieee.double.mul 4368491638549381120 V = some (Ieee.double.word s (min RR infR)) := by
          rw [mul_some (by decide) fV, roundW_plain, hVs]
          have e1 : isNeg 4368491638549381120 = false := by decide
          have e2 : mg (rung 4368491638549381120) = 2 ^ 52 := by decide
          have e3 : pl (rung 4368491638549381120) = 969 := by decide
          have e4 : mg (rung V) = 2 ^ 52 + f := by rw [hVr]; unfold mg; rw [if_neg (by omega)]; omega
          have e5 : pl (rung V) = F - 1 := by rw [hVr]; unfold pl; omega
          rw [e1, e2, e3, e4, e5, Bool.false_xor, hsub (F - 1) (by omega)]
        have hop := fun W t => run_float_arith (P := Tryz.prog) W .mul t .f64 4368491638549381120 V _ hm
        obtain ⟨RW, hRW⟩ : ∃ RW, Ieee.double.word s (min RR infR) = RW := ⟨_, rfl⟩
        rw [hRW] at hop ⊢
        have g0 : Ex + 53 + 1023 = (F : Int) := hF
        clear hlow hhigh hmid hsub hor hyo hYz hZ hF hV hVr hVs hVl hXl hX fV hm hRW hFl hF1
        go_enter Tryz.func106, Tryz.ntmps106
        go_wp2_with (first
          | (go_at_call 107; refine (K.out).mono ?_; rintro e wk ⟨rfl, nk, hw1⟩; subst hw1)
          | (go_at_call 55; refine (KN.out).mono ?_; rintro e wz ⟨rfl, hw1⟩; have hw2 := hw1.symm; clear hw1; subst hw2)
          | (go_at_call 56; refine (KI.out).mono ?_; rintro e wz ⟨rfl, hw1⟩; have hw2 := hw1.symm; clear hw1; subst hw2))
        go_ret
        exact ⟨rfl, nk, rfl⟩
      · rw [if_neg c3] at hF
        have hm : Ieee.double.mul 4607182418800017408 V = some (Ieee.double.word s (min RR infR)) := by
          have h3 := hmid (F - 1) (by omega)
          have h4 : RR = F * 2 ^ 52 + f := h3.trans (shift_eq hF1)
          rw [h4, Nat.min_eq_left (by omega), hV]
          have h5 := mul_some (a := 4607182418800017408) (b := V) (by decide) fV
          have h6 := mul_one' hVl (nan_of (Nat.le_of_lt fV))
          rw [mul_comm', show oneW = 4607182418800017408 from rfl, h5] at h6
          rw [h5]
          have h7 : opt (some (roundW (isNeg 4607182418800017408 ^^ isNeg V) (mg (rung 4607182418800017408) * mg (rung V)) (-1074 + (pl (rung 4607182418800017408) : Int) + (-1074 + (pl (rung V) : Int))) false)) = roundW (isNeg 4607182418800017408 ^^ isNeg V) (mg (rung 4607182418800017408) * mg (rung V)) (-1074 + (pl (rung 4607182418800017408) : Int) + (-1074 + (pl (rung V) : Int))) false := by
            rw [roundW_plain]; exact opt_round _ _
          rw [h7] at h6
          rw [h6]
        have hop := fun W t => run_float_arith (P := Tryz.prog) W .mul t .f64 4607182418800017408 V _ hm
        obtain ⟨RW, hRW⟩ : ∃ RW, Ieee.double.word s (min RR infR) = RW := ⟨_, rfl⟩
        rw [hRW] at hop ⊢
        have g0 : Ex + 1023 = (F : Int) := hF
        clear hlow hhigh hmid hsub hor hyo hYz hZ hF hV hVr hVs hVl hXl hX fV hm hRW hFl hF1
        go_enter Tryz.func106, Tryz.ntmps106
        go_wp2_with (first
          | (go_at_call 107; refine (K.out).mono ?_; rintro e wk ⟨rfl, nk, hw1⟩; subst hw1)
          | (go_at_call 55; refine (KN.out).mono ?_; rintro e wz ⟨rfl, hw1⟩; have hw2 := hw1.symm; clear hw1; subst hw2)
          | (go_at_call 56; refine (KI.out).mono ?_; rintro e wz ⟨rfl, hw1⟩; have hw2 := hw1.symm; clear hw1; subst hw2))
        go_ret
        exact ⟨rfl, nk, rfl⟩
theorem kldexp {x : Nat} {n : Int} (hx : x < 2 ^ 64) (hf : rung x < infR) (h0 : rung x ≠ 0) (hnb : -100000 ≤ n ∧ n ≤ 100000) (w : World) :
    Kn 93 #[.float .f64 x, .int .i64 n] w (.float .f64 (ldW x n)) := by
  have K := Lib.hid (kldexp0 hx hf h0 hnb w)
  obtain ⟨R, hR⟩ : ∃ R, ldW x n = R := ⟨_, rfl⟩
  rw [hR] at K ⊢
  clear hR
  go_enter Tryz.func93, Tryz.ntmps93
  go_wp2_with (go_at_call 106; refine (K.out).mono ?_; rintro e wk ⟨rfl, nk, hw1⟩; subst hw1)
  go_ret
  exact ⟨rfl, nk, rfl⟩
end Go.Proofs.YtoodbdjmbicaeaaGreatDoor
