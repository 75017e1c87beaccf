/- What is left of a division of floats. No condition. -/
import Derived.Test.YtoodbdjmbicaeaaGreatFx4
namespace Go.Proofs.YtoodbdjmbicaeaaGreat
open Go.RowKit
set_option maxRecDepth 20000
set_option maxHeartbeats 2000000
set_option linter.unusedVariables false
set_option linter.unusedSimpArgs false

/-- What Mod gives. -/
def modW (a b : Nat) : Nat := if nanW a ∨ nanW b ∨ rung a = infR ∨ rung b = 0 then theNaN else Ieee.double.word (isNeg a) (modR (rung a) (rung b))
theorem dl1 {d : Nat} (h : (d : Int) ≤ 100000) : -100000 ≤ (d : Int) ∧ (d : Int) ≤ 100000 := by omega
theorem dl2 {d x y : Nat} {c : Prop} [Decidable c] (h : x ≤ 2097) (m : (d : Int) = (x : Int) - (y : Int) - (if c then 1 else 0)) : (d : Int) ≤ 100000 := by split at m <;> omega
theorem dl3 (x y : Int) : x - 1073 - 1 - (y - 1073) = x - y - 1 := by omega
theorem dl4 (x y : Int) : x - 1073 - (y - 1073) = x - y - 0 := by omega
theorem dl5 {x : Nat} {l : Int} (h : x ≤ 2097) (m : (x : Int) - 1073 = l) : -5000 ≤ l ∧ l ≤ 5000 := by omega
theorem kmod1 {a b : Nat} (ha : a < 2 ^ 64) (hz : (FloatKind.f64.format.order b 0 == some .eq) = true) (w : World) : Kn 134 #[.float .f64 a, .float .f64 b] w (.float .f64 theNaN) := by
  go_enter Tryz.func134, Tryz.ntmps134
  go_wp2_with (first
    | (go_at_call 137; refine (kmNaN _).mono ?_; rintro e wz ⟨rfl, hw1⟩; have hw2 := hw1.symm; clear hw1; subst hw2))
  go_ret
  exact ⟨rfl, 0, rfl⟩
theorem kmod2 {a b : Nat} (ha : a < 2 ^ 64) (hz : (FloatKind.f64.format.order b 0 == some .eq) = false) (h : isInfW a = true ∨ (isInfW a = false ∧ nanW a = true) ∨ (isInfW a = false ∧ nanW a = false ∧ nanW b = true)) (w : World) : Kn 134 #[.float .f64 a, .float .f64 b] w (.float .f64 theNaN) := by
  have KI := Lib.hid (kminf ha w)
  have KNA := Lib.hid (kmnan a w)
  have KNB := Lib.hid (kmnan b w)
  rcases h with h | ⟨h, h2⟩ | ⟨h, h2, h3⟩
  · rw [h] at KI
    go_enter Tryz.func134, Tryz.ntmps134
    go_wp2_with (first
      | (go_at_call 137; refine (kmNaN _).mono ?_; rintro e wz ⟨rfl, hw1⟩; have hw2 := hw1.symm; clear hw1; subst hw2)
      | (go_at_call 95; have tk2 := tk1; refine (KNB.out).mono ?_; rintro e wz ⟨rfl, hw1⟩; have hw2 := hw1.symm; clear hw1; subst hw2)
      | (go_at_call 95; have tk1 := True.intro; refine (KNA.out).mono ?_; rintro e wz ⟨rfl, hw1⟩; have hw2 := hw1.symm; clear hw1; subst hw2)
      | (go_at_call 74; refine (KI.out).mono ?_; rintro e wz ⟨rfl, hw1⟩; have hw2 := hw1.symm; clear hw1; subst hw2))
    go_ret
    exact ⟨rfl, 0, rfl⟩
  · rw [h] at KI
    rw [h2] at KNA
    go_enter Tryz.func134, Tryz.ntmps134
    go_wp2_with (first
      | (go_at_call 137; refine (kmNaN _).mono ?_; rintro e wz ⟨rfl, hw1⟩; have hw2 := hw1.symm; clear hw1; subst hw2)
      | (go_at_call 95; have tk2 := tk1; refine (KNB.out).mono ?_; rintro e wz ⟨rfl, hw1⟩; have hw2 := hw1.symm; clear hw1; subst hw2)
      | (go_at_call 95; have tk1 := True.intro; refine (KNA.out).mono ?_; rintro e wz ⟨rfl, hw1⟩; have hw2 := hw1.symm; clear hw1; subst hw2)
      | (go_at_call 74; refine (KI.out).mono ?_; rintro e wz ⟨rfl, hw1⟩; have hw2 := hw1.symm; clear hw1; subst hw2))
    go_ret
    exact ⟨rfl, 0, rfl⟩
  · rw [h] at KI
    rw [h2] at KNA
    rw [h3] at KNB
    go_enter Tryz.func134, Tryz.ntmps134
    go_wp2_with (first
      | (go_at_call 137; refine (kmNaN _).mono ?_; rintro e wz ⟨rfl, hw1⟩; have hw2 := hw1.symm; clear hw1; subst hw2)
      | (go_at_call 95; have tk2 := tk1; refine (KNB.out).mono ?_; rintro e wz ⟨rfl, hw1⟩; have hw2 := hw1.symm; clear hw1; subst hw2)
      | (go_at_call 95; have tk1 := True.intro; refine (KNA.out).mono ?_; rintro e wz ⟨rfl, hw1⟩; have hw2 := hw1.symm; clear hw1; subst hw2)
      | (go_at_call 74; refine (KI.out).mono ?_; rintro e wz ⟨rfl, hw1⟩; have hw2 := hw1.symm; clear hw1; subst hw2))
    go_ret
    exact ⟨rfl, 0, rfl⟩

/-- The first is less. -/
theorem kmod3 {a b y : Nat} (ha : a < 2 ^ 64) (hz : (FloatKind.f64.format.order b 0 == some .eq) = false) (ia : isInfW a = false) (na : nanW a = false) (nb : nanW b = false) (w : World) (kab : Kp 115 #[.float .f64 b] w (.float .f64 y)) (yf : Nat) (ye : Int) (kfr : Kn 75 #[.float .f64 y] w (.tuple #[.float .f64 yf, .int .i64 ye]))
    (s : Bool) (hs : (FloatKind.f64.format.order a 0 == some .lt) = s) (r V : Nat) (hr : r = if s then flip a else a) (hge : (FloatKind.f64.format.order r y == some .gt || FloatKind.f64.format.order r y == some .eq) = false) (hV : V = if s then flip r else r) (hr64 : r < 2 ^ 64) :
    Kn 134 #[.float .f64 a, .float .f64 b] w (.float .f64 V) := by
  have KI := Lib.hid (kminf ha w)
  have KNA := Lib.hid (kmnan a w)
  have KNB := Lib.hid (kmnan b w)
  rw [ia] at KI
  rw [na] at KNA
  rw [nb] at KNB
  have KAB := Lib.hid kab
  have KFR := Lib.hid kfr
  cases s
  · simp only [Bool.false_eq_true, if_false] at hr hV
    subst hr hV
    clear kab kfr
    go_enter Tryz.func134, Tryz.ntmps134
    go_wp2_with (first
      | (go_at_call 75; refine (KFR.out).mono ?_; rintro e wk ⟨rfl, nk, hw1⟩; subst hw1)
      | (go_at_call 115; refine (KAB.out).mono ?_; rintro e wz ⟨rfl, hw1⟩; have hw2 := hw1.symm; clear hw1; subst hw2)
      | (go_at_call 95; have tk2 := tk1; refine (KNB.out).mono ?_; rintro e wz ⟨rfl, hw1⟩; have hw2 := hw1.symm; clear hw1; subst hw2)
      | (go_at_call 95; have tk1 := True.intro; refine (KNA.out).mono ?_; rintro e wz ⟨rfl, hw1⟩; have hw2 := hw1.symm; clear hw1; subst hw2)
      | (go_at_call 74; refine (KI.out).mono ?_; rintro e wz ⟨rfl, hw1⟩; have hw2 := hw1.symm; clear hw1; subst hw2))
    go_loopw [7] (fun u wr => u = .float .f64 V ∧ wr = w.drewN nk) (fun _ _ => 0)
    case atStart => exact ⟨rfl, rfl⟩
    case round =>
      obtain ⟨rfl, rfl⟩ := hrel
      go_wp2_with fail
      go_ret
      exact ⟨rfl, nk, rfl⟩
  · simp only [if_true] at hr hV
    have hn1 := negU ha
    have hn2 := negU hr64
    rw [← hr] at hn1
    rw [← hV] at hn2
    clear kab kfr hr hV
    go_enter Tryz.func134, Tryz.ntmps134
    go_wp2_with (first
      | (go_at_call 75; refine (KFR.out).mono ?_; rintro e wk ⟨rfl, nk, hw1⟩; subst hw1)
      | (go_at_call 115; refine (KAB.out).mono ?_; rintro e wz ⟨rfl, hw1⟩; have hw2 := hw1.symm; clear hw1; subst hw2)
      | (go_at_call 95; have tk2 := tk1; refine (KNB.out).mono ?_; rintro e wz ⟨rfl, hw1⟩; have hw2 := hw1.symm; clear hw1; subst hw2)
      | (go_at_call 95; have tk1 := True.intro; refine (KNA.out).mono ?_; rintro e wz ⟨rfl, hw1⟩; have hw2 := hw1.symm; clear hw1; subst hw2)
      | (go_at_call 74; refine (KI.out).mono ?_; rintro e wz ⟨rfl, hw1⟩; have hw2 := hw1.symm; clear hw1; subst hw2))
    go_loopw [7] (fun u wr => u = .float .f64 r ∧ wr = w.drewN nk) (fun _ _ => 0)
    case atStart => exact ⟨rfl, rfl⟩
    case round =>
      obtain ⟨rfl, rfl⟩ := hrel
      go_wp2_with fail
      go_ret
      exact ⟨rfl, nk, rfl⟩

/-- The general case. -/
theorem kmod4 {a b y : Nat} (ha : a < 2 ^ 64) (hz : (FloatKind.f64.format.order b 0 == some .eq) = false) (ia : isInfW a = false) (na : nanW a = false) (nb : nanW b = false) (w : World) (kab : Kp 115 #[.float .f64 b] w (.float .f64 y)) (hy : y < infR) (hy0 : y ≠ 0) (yf : Nat) (ye : Int) (YF1 : yf = 1022 * 2 ^ 52 + frv y) (YF2 : 1022 * 2 ^ 52 + frv y ≤ infR) (hye : ye = (lgv y : Int) - 1073) (kfr : Kn 75 #[.float .f64 y] w (.tuple #[.float .f64 yf, .int .i64 ye]))
    (s : Bool) (hs : (FloatKind.f64.format.order a 0 == some .lt) = s) (A V : Nat) (hA : A < infR) (hAA : A = if s then flip a else a) (HVV : V = Ieee.double.word s (modR A y)) :
    Kn 134 #[.float .f64 a, .float .f64 b] w (.float .f64 V) := by
  have KI := Lib.hid (kminf ha w)
  have KNA := Lib.hid (kmnan a w)
  have KNB := Lib.hid (kmnan b w)
  rw [ia] at KI
  rw [na] at KNA
  rw [nb] at KNB
  have KAB := Lib.hid kab
  have KFR := Lib.hid kfr
  have hy63 : y < 2 ^ 63 := Nat.lt_trans hy infR_lt
  have hy64 : y < 2 ^ 64 := Nat.lt_trans hy63 (by decide)
  have YP := plain_word hy63
  have hyeb : -5000 ≤ ye ∧ ye ≤ 5000 := by have := (nr_spec hy0 hy).2.2.2.2.2; omega
  have HYE := Lib.hid hye
  have HYF1 := Lib.hid YF1
  have HYP := Lib.hid YP
  have HHV := Lib.hid HVV
  clear hye YF1 YP HVV
  cases s
  · simp only [Bool.false_eq_true, if_false] at hAA
    subst hAA
    clear kab kfr
    go_enter Tryz.func134, Tryz.ntmps134
    go_wp2_with (first
      | (go_at_call 75; refine (KFR.out).mono ?_; rintro e wk ⟨rfl, nk, hw1⟩; subst hw1)
      | (go_at_call 115; refine (KAB.out).mono ?_; rintro e wz ⟨rfl, hw1⟩; have hw2 := hw1.symm; clear hw1; subst hw2)
      | (go_at_call 95; have tk2 := tk1; refine (KNB.out).mono ?_; rintro e wz ⟨rfl, hw1⟩; have hw2 := hw1.symm; clear hw1; subst hw2)
      | (go_at_call 95; have tk1 := True.intro; refine (KNA.out).mono ?_; rintro e wz ⟨rfl, hw1⟩; have hw2 := hw1.symm; clear hw1; subst hw2)
      | (go_at_call 74; refine (KI.out).mono ?_; rintro e wz ⟨rfl, hw1⟩; have hw2 := hw1.symm; clear hw1; subst hw2))
    go_loopw [7] (fun u wr => ∃ R n : Nat, u = .float .f64 R ∧ R < infR ∧ val R % val y = val A % val y ∧ wr = w.drewN n) (fun u _ => match u with | .float _ r => val r | _ => 0)
    case atStart => exact ⟨A, nk, rfl, hA, rfl, rfl⟩
    case round =>
      obtain ⟨R, n, rfl, hR, hmod, rfl⟩ := hrel
      have hge := ge_plain (R := R) (y := y) (Nat.le_of_lt hR) (Nat.le_of_lt hy)
      by_cases hle : val y ≤ val R
      · rw [decide_eq_true hle] at hge
        have hR0 : R ≠ 0 := fun h => by rw [h, val_zero] at hle; exact absurd (Nat.le_zero.1 hle) (val_pos hy0)
        obtain ⟨d, T, R', m1, m2, m3, m4, m5, m6, m7, m8, m9, m10⟩ := mod_one hR hy hy0 hle
        have hR63 : R < 2 ^ 63 := Nat.lt_trans hR infR_lt
        have hT63 : T < 2 ^ 63 := Nat.lt_trans m3 infR_lt
        have KF2 := fun W => kfrexp (x := R) (Nat.lt_trans hR63 (by decide)) (by rw [(plain_word hR63).1]; exact hR) (by rw [(plain_word hR63).1]; exact hR0) W
        rw [(plain_word hR63).1] at KF2
        obtain ⟨f1, f2⟩ := frac_plain hR0 hR
        have hlt := lt_plain f2 YF2
        have hdl : (d : Int) ≤ 100000 := dl2 (nr_spec hR0 hR).2.2.2.2.2 m1
        have KL := fun W => kldexp (x := y) (n := (d : Int)) hy64 (by rw [HYP.out.1]; exact hy) (by rw [HYP.out.1]; exact hy0) (dl1 hdl) W
        have hld : ldW y (d : Int) = T := by
          unfold ldW
          rw [HYP.out.1, HYP.out.2.1, m2, Nat.min_eq_left (Nat.le_of_lt m3)]
          exact (plain_word hT63).2.2
        rw [hld] at KL
        have hop := fun W t => run_float_arith (P := Tryz.prog) W .sub t .f64 R T R' (sub_plain hR m3 m5 m6 m7)
        rw [← f1, ← HYF1.out] at hlt
        obtain ⟨FR, hFR⟩ : ∃ FR, fracW R = FR := ⟨_, rfl⟩
        obtain ⟨lR, hlR⟩ : ∃ lR : Int, (lgv R : Int) - 1073 = lR := ⟨_, rfl⟩
        rw [hFR, hlR] at KF2
        have hltc : FR < yf ↔ frv R < frv y := by rw [← hFR, f1, HYF1.out]; exact Nat.add_lt_add_iff_left
        rw [hFR] at hlt
        have KF := Lib.hid KF2
        have KLD := Lib.hid KL
        have M8 := Lib.hid m8
        have M9 := Lib.hid (m9.trans hmod)
        have M7 := Lib.hid m7
        by_cases hc : frv R < frv y
        · rw [if_pos hc] at m1
          rw [decide_eq_true (hltc.2 hc)] at hlt
          have hd : lR - 1 - ye = (d : Int) := by rw [m1, ← hlR, HYE.out]; exact dl3 _ _
          have hlb : -5000 ≤ lR ∧ lR ≤ 5000 := dl5 (nr_spec hR0 hR).2.2.2.2.2 hlR
          clear m1 m2 m3 m4 m5 m6 m7 m8 m9 m10 KF2 KL f1 f2 hltc hFR hlR hdl hld hc hle hmod hR0 YF2 hR63 hT63 hy hy0 hy63 hy64 hR
          go_wp2_with (first
            | (go_at_call 107; refine (KLD.out _).mono ?_; rintro e w5 ⟨rfl, n5, hw1⟩; subst hw1)
            | (go_at_call 75; refine (KF.out _).mono ?_; rintro e w4 ⟨rfl, n4, hw1⟩; subst hw1))
          go_roundw
          case rel => exact ⟨R', _, rfl, M7.out, M9.out, rfl⟩
          case measure => exact M8.out
        · rw [if_neg hc] at m1
          rw [decide_eq_false (fun h => hc (hltc.1 h))] at hlt
          have hd : lR - ye = (d : Int) := by rw [m1, ← hlR, HYE.out]; exact dl4 _ _
          have hlb : -5000 ≤ lR ∧ lR ≤ 5000 := dl5 (nr_spec hR0 hR).2.2.2.2.2 hlR
          clear m1 m2 m3 m4 m5 m6 m7 m8 m9 m10 KF2 KL f1 f2 hltc hFR hlR hdl hld hc hle hmod hR0 YF2 hR63 hT63 hy hy0 hy63 hy64 hR
          go_wp2_with (first
            | (go_at_call 107; refine (KLD.out _).mono ?_; rintro e w5 ⟨rfl, n5, hw1⟩; subst hw1)
            | (go_at_call 75; refine (KF.out _).mono ?_; rintro e w4 ⟨rfl, n4, hw1⟩; subst hw1))
          go_roundw
          case rel => exact ⟨R', _, rfl, M7.out, M9.out, rfl⟩
          case measure => exact M8.out
      · rw [decide_eq_false hle] at hge
        have hRm : modR A y = R := modR_of (by rw [← hmod, Nat.mod_eq_of_lt (Nat.lt_of_not_le hle)])
        have HVV := HHV.out
        rw [hRm] at HVV
        have hR63 : R < 2 ^ 63 := Nat.lt_trans hR infR_lt
        rw [(plain_word hR63).2.2] at HVV
        subst HVV
        clear hRm hmod hle
        go_wp2_with fail
        go_ret
        exact ⟨rfl, n, rfl⟩
  · simp only [if_true] at hAA
    have hn1 := negU ha
    rw [← hAA] at hn1
    clear kab kfr hAA
    go_enter Tryz.func134, Tryz.ntmps134
    go_wp2_with (first
      | (go_at_call 75; refine (KFR.out).mono ?_; rintro e wk ⟨rfl, nk, hw1⟩; subst hw1)
      | (go_at_call 115; refine (KAB.out).mono ?_; rintro e wz ⟨rfl, hw1⟩; have hw2 := hw1.symm; clear hw1; subst hw2)
      | (go_at_call 95; have tk2 := tk1; refine (KNB.out).mono ?_; rintro e wz ⟨rfl, hw1⟩; have hw2 := hw1.symm; clear hw1; subst hw2)
      | (go_at_call 95; have tk1 := True.intro; refine (KNA.out).mono ?_; rintro e wz ⟨rfl, hw1⟩; have hw2 := hw1.symm; clear hw1; subst hw2)
      | (go_at_call 74; refine (KI.out).mono ?_; rintro e wz ⟨rfl, hw1⟩; have hw2 := hw1.symm; clear hw1; subst hw2))
    go_loopw [7] (fun u wr => ∃ R n : Nat, u = .float .f64 R ∧ R < infR ∧ val R % val y = val A % val y ∧ wr = w.drewN n) (fun u _ => match u with | .float _ r => val r | _ => 0)
    case atStart => exact ⟨A, nk, rfl, hA, rfl, rfl⟩
    case round =>
      obtain ⟨R, n, rfl, hR, hmod, rfl⟩ := hrel
      have hge := ge_plain (R := R) (y := y) (Nat.le_of_lt hR) (Nat.le_of_lt hy)
      by_cases hle : val y ≤ val R
      · rw [decide_eq_true hle] at hge
        have hR0 : R ≠ 0 := fun h => by rw [h, val_zero] at hle; exact absurd (Nat.le_zero.1 hle) (val_pos hy0)
        obtain ⟨d, T, R', m1, m2, m3, m4, m5, m6, m7, m8, m9, m10⟩ := mod_one hR hy hy0 hle
        have hR63 : R < 2 ^ 63 := Nat.lt_trans hR infR_lt
        have hT63 : T < 2 ^ 63 := Nat.lt_trans m3 infR_lt
        have KF2 := fun W => kfrexp (x := R) (Nat.lt_trans hR63 (by decide)) (by rw [(plain_word hR63).1]; exact hR) (by rw [(plain_word hR63).1]; exact hR0) W
        rw [(plain_word hR63).1] at KF2
        obtain ⟨f1, f2⟩ := frac_plain hR0 hR
        have hlt := lt_plain f2 YF2
        have hdl : (d : Int) ≤ 100000 := dl2 (nr_spec hR0 hR).2.2.2.2.2 m1
        have KL := fun W => kldexp (x := y) (n := (d : Int)) hy64 (by rw [HYP.out.1]; exact hy) (by rw [HYP.out.1]; exact hy0) (dl1 hdl) W
        have hld : ldW y (d : Int) = T := by
          unfold ldW
          rw [HYP.out.1, HYP.out.2.1, m2, Nat.min_eq_left (Nat.le_of_lt m3)]
          exact (plain_word hT63).2.2
        rw [hld] at KL
        have hop := fun W t => run_float_arith (P := Tryz.prog) W .sub t .f64 R T R' (sub_plain hR m3 m5 m6 m7)
        rw [← f1, ← HYF1.out] at hlt
        obtain ⟨FR, hFR⟩ : ∃ FR, fracW R = FR := ⟨_, rfl⟩
        obtain ⟨lR, hlR⟩ : ∃ lR : Int, (lgv R : Int) - 1073 = lR := ⟨_, rfl⟩
        rw [hFR, hlR] at KF2
        have hltc : FR < yf ↔ frv R < frv y := by rw [← hFR, f1, HYF1.out]; exact Nat.add_lt_add_iff_left
        rw [hFR] at hlt
        have KF := Lib.hid KF2
        have KLD := Lib.hid KL
        have M8 := Lib.hid m8
        have M9 := Lib.hid (m9.trans hmod)
        have M7 := Lib.hid m7
        by_cases hc : frv R < frv y
        · rw [if_pos hc] at m1
          rw [decide_eq_true (hltc.2 hc)] at hlt
          have hd : lR - 1 - ye = (d : Int) := by rw [m1, ← hlR, HYE.out]; exact dl3 _ _
          have hlb : -5000 ≤ lR ∧ lR ≤ 5000 := dl5 (nr_spec hR0 hR).2.2.2.2.2 hlR
          clear m1 m2 m3 m4 m5 m6 m7 m8 m9 m10 KF2 KL f1 f2 hltc hFR hlR hdl hld hc hle hmod hR0 YF2 hR63 hT63 hy hy0 hy63 hy64 hR
          go_wp2_with (first
            | (go_at_call 107; refine (KLD.out _).mono ?_; rintro e w5 ⟨rfl, n5, hw1⟩; subst hw1)
            | (go_at_call 75; refine (KF.out _).mono ?_; rintro e w4 ⟨rfl, n4, hw1⟩; subst hw1))
          go_roundw
          case rel => exact ⟨R', _, rfl, M7.out, M9.out, rfl⟩
          case measure => exact M8.out
        · rw [if_neg hc] at m1
          rw [decide_eq_false (fun h => hc (hltc.1 h))] at hlt
          have hd : lR - ye = (d : Int) := by rw [m1, ← hlR, HYE.out]; exact dl4 _ _
          have hlb : -5000 ≤ lR ∧ lR ≤ 5000 := dl5 (nr_spec hR0 hR).2.2.2.2.2 hlR
          clear m1 m2 m3 m4 m5 m6 m7 m8 m9 m10 KF2 KL f1 f2 hltc hFR hlR hdl hld hc hle hmod hR0 YF2 hR63 hT63 hy hy0 hy63 hy64 hR
          go_wp2_with (first
            | (go_at_call 107; refine (KLD.out _).mono ?_; rintro e w5 ⟨rfl, n5, hw1⟩; subst hw1)
            | (go_at_call 75; refine (KF.out _).mono ?_; rintro e w4 ⟨rfl, n4, hw1⟩; subst hw1))
          go_roundw
          case rel => exact ⟨R', _, rfl, M7.out, M9.out, rfl⟩
          case measure => exact M8.out
      · rw [decide_eq_false hle] at hge
        have hRm : modR A y = R := modR_of (by rw [← hmod, Nat.mod_eq_of_lt (Nat.lt_of_not_le hle)])
        have HVV := HHV.out
        rw [hRm] at HVV
        have hR63 : R < 2 ^ 63 := Nat.lt_trans hR infR_lt
        have hn2 := negU (a := R) (Nat.lt_trans hR63 (by decide))
        have hfl : flip R = V := by rw [HVV]; unfold flip; rw [if_pos hR63, word_eq, if_pos rfl, Nat.add_comm]
        rw [hfl] at hn2
        clear hRm hmod hle hfl HVV
        go_wp2_with fail
        go_ret
        exact ⟨rfl, n, rfl⟩
end Go.Proofs.YtoodbdjmbicaeaaGreat
