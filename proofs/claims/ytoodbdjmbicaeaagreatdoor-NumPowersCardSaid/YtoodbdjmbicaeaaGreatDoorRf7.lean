/- The document's roots, whole parts, signs; the program's. No condition. -/
import Derived.Test.YtoodbdjmbicaeaaGreatDoorRf6
import Derived.Test.YtoodbdjmbicaeaaGreatDoorP2
namespace Go.Proofs.YtoodbdjmbicaeaaGreatDoor
open Go.RowKit
set_option maxRecDepth 8000
set_option maxHeartbeats 1000000
set_option linter.unusedVariables false
set_option linter.unusedSimpArgs false

theorem krabs {a : Nat} (ha : a < 2 ^ 64) (w : World) : Kp 34 #[wd a] w (wd (absV a)) := by
  have h := andNot' ha
  cases na : nanW a
  · rw [(absV_eq na).1]
    go_enter Tryz.func34, Tryz.ntmps34
    go_wp2_with (first
      | (go_at_call 30; refine (krNaN (by assumption) _).mono ?_; rintro e wz ⟨rfl, hw1⟩; have hw2 := hw1.symm; clear hw1; subst hw2)
      | (go_at_call 31; refine (krInfQ (by assumption) _).mono ?_; rintro e wz ⟨rfl, hw1⟩; have hw2 := hw1.symm; clear hw1; subst hw2)
      | (go_at_call 37; refine (krNeg0 (by assumption) _).mono ?_; rintro e wz ⟨rfl, hw1⟩; have hw2 := hw1.symm; clear hw1; subst hw2)
      | (go_at_call 29; refine (krNought (by assumption) _).mono ?_; rintro e wz ⟨rfl, hw1⟩; have hw2 := hw1.symm; clear hw1; subst hw2))
    go_ret
    exact ⟨rfl, rfl⟩
  · have hv : absV a = theNaN := by
      unfold absV bitsW
      have : nanW (a % 2 ^ 63) = true := by
        rw [nanW_eq]
        have h2 : rung (a % 2 ^ 63) = rung a := by unfold rung; rw [Nat.mod_mod]
        rw [h2, ← nanW_eq]
        exact na
      rw [this]
      rfl
    rw [hv]
    go_enter Tryz.func34, Tryz.ntmps34
    go_wp2_with (first
      | (go_at_call 30; refine (krNaN (by assumption) _).mono ?_; rintro e wz ⟨rfl, hw1⟩; have hw2 := hw1.symm; clear hw1; subst hw2)
      | (go_at_call 31; refine (krInfQ (by assumption) _).mono ?_; rintro e wz ⟨rfl, hw1⟩; have hw2 := hw1.symm; clear hw1; subst hw2)
      | (go_at_call 37; refine (krNeg0 (by assumption) _).mono ?_; rintro e wz ⟨rfl, hw1⟩; have hw2 := hw1.symm; clear hw1; subst hw2)
      | (go_at_call 29; refine (krNought (by assumption) _).mono ?_; rintro e wz ⟨rfl, hw1⟩; have hw2 := hw1.symm; clear hw1; subst hw2))
    go_ret
    exact ⟨rfl, rfl⟩
theorem one_int : intW 1 = 4607182418800017408 := by decide +kernel
theorem neg_int : intW (-1) = 13830554455654793216 := by decide +kernel
theorem ord_zero {a : Nat} (na : nanW a = false) : (rung a = 0 → FloatKind.f64.format.order a 0 = some .eq) ∧ (rung a ≠ 0 → isNeg a = true → FloatKind.f64.format.order a 0 = some .lt) ∧ (rung a ≠ 0 → isNeg a = false → FloatKind.f64.format.order a 0 = some .gt) := by
  have e : FloatKind.f64.format.order a 0 = some (compareOfLessAndEq (ival a) (ival 0)) := order_eq (nan_false na) (by decide)
  have i0 : ival 0 = 0 := by decide
  rw [e, i0]
  have hz := ival_zero_iff (x := a)
  unfold compareOfLessAndEq
  refine ⟨fun h => ?_, fun h hs => ?_, fun h hs => ?_⟩
  · rw [if_neg (by have := hz.2 h; omega), if_pos (hz.2 h)]
  · have h1 : ival a ≠ 0 := fun k => h (hz.1 k)
    have h2 : ival a < 0 := by
      rcases ival_abs a with ⟨_, f⟩ | ⟨f, _⟩
      · rw [f] at hs; cases hs
      · omega
    rw [if_pos h2]
  · have h1 : ival a ≠ 0 := fun k => h (hz.1 k)
    have h2 : ¬ ival a < 0 := by
      rcases ival_abs a with ⟨f, _⟩ | ⟨_, f⟩
      · omega
      · rw [f] at hs; cases hs
    rw [if_neg h2, if_neg h1]

theorem whole_parts {a : Nat} : (1074 ≤ pl (rung a) → val (rung a) / U1 = mg (rung a) * 2 ^ (pl (rung a) - 1074) ∧ (val (rung a) % U1 != 0) = false) ∧
    (pl (rung a) < 1074 → val (rung a) / U1 = mg (rung a) / 2 ^ (1074 - pl (rung a)) ∧ (val (rung a) % U1 != 0) = (mg (rung a) % 2 ^ (1074 - pl (rung a)) != 0)) := by
  obtain ⟨m, hm⟩ : ∃ m, mg (rung a) = m := ⟨_, rfl⟩
  obtain ⟨p, hp⟩ : ∃ p, pl (rung a) = p := ⟨_, rfl⟩
  have hv : val (rung a) = m * 2 ^ p := by unfold val; rw [hm, hp]
  rw [hm, hp, hv]
  constructor
  · intro h
    rw [U1_more h, ← Nat.mul_assoc]
    exact ⟨Nat.mul_div_cancel _ U1_pos, by rw [Nat.mul_mod_left]; rfl⟩
  · intro h
    have e6 : U1 = 2 ^ (1074 - p) * 2 ^ p := U1_split (by omega)
    have hpp := Nat.two_pow_pos p
    rw [e6, Nat.mul_div_mul_right _ _ hpp, Nat.mul_mod_mul_right]
    refine ⟨rfl, ?_⟩
    by_cases h0 : m % 2 ^ (1074 - p) = 0
    · rw [h0, Nat.zero_mul]
    · have h1 : m % 2 ^ (1074 - p) * 2 ^ p ≠ 0 := Nat.mul_ne_zero h0 (by omega)
      rw [bne_iff_ne.2 h0, bne_iff_ne.2 h1]
theorem krwhole {a : Nat} (ha : a < 2 ^ 64) (hf : rung a < infR) (w : World) : Calls Tryz.prog 72 #[wd a] w fun e w' => ∃ u, e = .returned (.tuple #[u, .bool (val (rung a) % U1 != 0)]) ∧ Bg w.heap.size w' u (val (rung a) / U1) ∧ Below w.heap.size w w' := by
  obtain ⟨w1, w2⟩ := whole_parts (a := a)
  have OA := Lib.hid (kropen ha w)
  have hpl := pl_le hf
  have ml := mg_lt (rung a)
  have sm := mg_dig a
  obtain ⟨base, hbase⟩ : ∃ base, w.heap.size = base := ⟨_, rfl⟩
  rw [hbase]
  obtain ⟨m, hm⟩ : ∃ m, mg (rung a) = m := ⟨_, rfl⟩
  obtain ⟨p, hp⟩ : ∃ p, pl (rung a) = p := ⟨_, rfl⟩
  obtain ⟨i, hi⟩ : ∃ i : Int, -1074 + (p : Int) = i := ⟨_, rfl⟩
  rw [hm] at w1 w2 OA ml sm
  rw [hp] at w1 w2 OA hpl
  rw [hi] at OA
  obtain ⟨Q, hQ⟩ : ∃ Q, val (rung a) / U1 = Q := ⟨_, rfl⟩
  obtain ⟨lf, hlf⟩ : ∃ lf, (val (rung a) % U1 != 0) = lf := ⟨_, rfl⟩
  rw [hQ, hlf] at w1 w2 ⊢
  have ml2 : m < 2 ^ 64 := by omega
  have SM := Lib.hid (show (dig m).length ≤ 1000 by omega)
  by_cases h : 1074 ≤ p
  · obtain ⟨a1, rfl⟩ := w1 h
    obtain ⟨k, hk⟩ : ∃ k, p - 1074 = k := ⟨_, rfl⟩
    rw [hk] at a1
    have hki : i = (k : Int) := by omega
    have hk1 : k ≤ 10000 := by omega
    have HA := Lib.hid a1.symm
    subst hki
    clear w1 w2 hm hp hi hQ hlf a1 hk h hpl sm
    go_enter Tryz.func72, Tryz.ntmps72
    go_wp2_with (first
      | (go_at_call 79; refine (kup K3.out k hk1 SM.out).mono ?_; rw [HA.out]; rintro e w4 ⟨p4, rfl, k4, b4⟩; have K4 := Lib.hid (k4.low (lo' := base) (by have := B3.out.size; omega)); have B4 := Lib.hid (B3.out.trans (b4.mono (by have := B3.out.size; omega))); clear k4 b4)
      | (go_at_call 69; refine (kfrom ml2 _).mono ?_; rintro e w3 ⟨p3, rfl, k3, b3⟩; rw [hbase] at k3 b3; have K3 := Lib.hid k3; have B3 := Lib.hid b3; clear k3 b3)
      | (go_at_call 76; refine (OA.out).mono ?_; rintro e wz ⟨rfl, hw1⟩; have hw2 := hw1.symm; clear hw1; subst hw2))
    go_ret2
    exact ⟨_, rfl, K4.out, B4.out⟩
  · obtain ⟨a1, a2⟩ := w2 (by omega)
    obtain ⟨k, hk⟩ : ∃ k, 1074 - p = k := ⟨_, rfl⟩
    rw [hk] at a1 a2
    have hki : -i = (k : Int) := by omega
    have hin : ¬ (0 : Int) ≤ i := by omega
    have hib : -1074 ≤ i := by omega
    have hk1 : k ≤ 10000 := by omega
    have HA := Lib.hid a1.symm
    have HL := Lib.hid a2.symm
    clear w1 w2 hm hp hi hQ hlf a1 a2 hk h hpl sm
    go_enter Tryz.func72, Tryz.ntmps72
    go_wp2_with (first
      | (go_at_call 97; refine (kdown K3.out k hk1 SM.out).mono ?_; rw [HA.out, HL.out]; rintro e w4 ⟨p4, rfl, k4, b4⟩; have K4 := Lib.hid (k4.low (lo' := base) (by have := B3.out.size; omega)); have B4 := Lib.hid (B3.out.trans (b4.mono (by have := B3.out.size; omega))); clear k4 b4)
      | (go_at_call 69; refine (kfrom ml2 _).mono ?_; rintro e w3 ⟨p3, rfl, k3, b3⟩; rw [hbase] at k3 b3; have K3 := Lib.hid k3; have B3 := Lib.hid b3; clear k3 b3)
      | (go_at_call 76; refine (OA.out).mono ?_; rintro e wz ⟨rfl, hw1⟩; have hw2 := hw1.symm; clear hw1; subst hw2))
    go_ret2
    exact ⟨_, rfl, K4.out, B4.out⟩
theorem val_small {a : Nat} (hf : rung a < infR) : val (rung a) / U1 < bp 40 := by
  have h1 := val_lt hf
  have h2 : val infR = 2 ^ 52 * 2 ^ 2046 := by
    obtain ⟨l, hl⟩ : ∃ l, l = 2046 := ⟨_, rfl⟩
    have e : infR = l * 2 ^ 52 + 2 ^ 52 := by rw [hl]; decide
    rw [e, val_at (L := l) (k := 2 ^ 52) (.inr (Nat.le_refl _)) (by omega), hl]
  obtain ⟨n, hn⟩ : ∃ n, n = 1074 := ⟨_, rfl⟩
  obtain ⟨l, hl⟩ : ∃ l, l = 2046 := ⟨_, rfl⟩
  obtain ⟨t, ht⟩ : ∃ t, t = 40 := ⟨_, rfl⟩
  have hb : bp t = 2 ^ (32 * t) := b_pow t
  rw [← hl] at h2
  rw [← ht, U1_of hn, Nat.div_lt_iff_lt_mul (Nat.two_pow_pos _)]
  refine Nat.lt_of_lt_of_le h1 ?_
  rw [h2, hb, ← Nat.pow_add, ← Nat.pow_add]
  exact Nat.pow_le_pow_right (by decide) (by omega)

theorem krstep1 {a : Nat} (ha : a < 2 ^ 64) (up : Bool) (na : nanW a = true) (w : World) : Kb 96 #[wd a, .bool up] w (wd theNaN) := by
  go_enter Tryz.func96, Tryz.ntmps96
  go_wp2_with (first
    | (go_at_call 30; refine (krNaN (by assumption) _).mono ?_; rintro e wz ⟨rfl, hw1⟩; have hw2 := hw1.symm; clear hw1; subst hw2)
    | (go_at_call 31; refine (krInfQ (by assumption) _).mono ?_; rintro e wz ⟨rfl, hw1⟩; have hw2 := hw1.symm; clear hw1; subst hw2)
    | (go_at_call 37; refine (krNeg0 (by assumption) _).mono ?_; rintro e wz ⟨rfl, hw1⟩; have hw2 := hw1.symm; clear hw1; subst hw2)
    | (go_at_call 29; refine (krNought (by assumption) _).mono ?_; rintro e wz ⟨rfl, hw1⟩; have hw2 := hw1.symm; clear hw1; subst hw2))
  go_ret
  exact ⟨rfl, Below.refl _ _⟩
theorem krstep2 {a : Nat} (ha : a < 2 ^ 64) (up : Bool) (na : nanW a = false) (ia : isInfW a = true) (w : World) : Kb 96 #[wd a, .bool up] w (wd a) := by
  go_enter Tryz.func96, Tryz.ntmps96
  go_wp2_with (first
    | (go_at_call 30; refine (krNaN (by assumption) _).mono ?_; rintro e wz ⟨rfl, hw1⟩; have hw2 := hw1.symm; clear hw1; subst hw2)
    | (go_at_call 31; refine (krInfQ (by assumption) _).mono ?_; rintro e wz ⟨rfl, hw1⟩; have hw2 := hw1.symm; clear hw1; subst hw2)
    | (go_at_call 37; refine (krNeg0 (by assumption) _).mono ?_; rintro e wz ⟨rfl, hw1⟩; have hw2 := hw1.symm; clear hw1; subst hw2)
    | (go_at_call 29; refine (krNought (by assumption) _).mono ?_; rintro e wz ⟨rfl, hw1⟩; have hw2 := hw1.symm; clear hw1; subst hw2))
  go_ret
  exact ⟨rfl, Below.refl _ _⟩
theorem krstep3 {a Q : Nat} (ha : a < 2 ^ 64) (up lf : Bool) (na : nanW a = false) (ia : isInfW a = false) (hQ : Q < bp 40) (w : World)
    (kw : Calls Tryz.prog 72 #[wd a] w fun e w' => ∃ u, e = .returned (.tuple #[u, .bool lf]) ∧ Bg w.heap.size w' u Q ∧ Below w.heap.size w w') :
    Kb 96 #[wd a, .bool up] w (wd (roundW (isNeg a) (Q + (lf && up).toNat) 0 false)) := by
  have KW := Lib.hid kw
  have h41 : bp 41 = bp 40 * 4294967296 := bp_succ 40
  have S3 := Lib.hid (show (dig Q).length ≤ 1000 from Nat.le_trans (dig_len hQ) (by decide))
  have S4 := Lib.hid (show (dig 1).length ≤ 1000 from Nat.le_trans (dig_len (k := 1) (by decide)) (by decide))
  cases lf
  · have S5 := Lib.hid (show (dig (Q + 0)).length ≤ 300 from Nat.le_trans (dig_len hQ) (by decide))
    clear kw h41 hQ
    simp only [Bool.false_and, Bool.toNat_false]
    go_enter Tryz.func96, Tryz.ntmps96
    go_wp2_with (first
      | (go_at_call 68; refine (kroundR (isNeg a) 0 false K3.out S5.out (by omega) (by intro h; cases h)).mono ?_; rintro e w6 ⟨rfl, b6⟩; have B6 := Lib.hid (B3.out.trans (b6.mono B3.out.size)); clear b6)
      | (go_at_call 72; refine (KW.out).mono ?_; rintro e w3 ⟨p3, rfl, k3, b3⟩; have K3 := Lib.hid k3; have B3 := Lib.hid b3; clear k3 b3)
      | (go_at_call 30; refine (krNaN (by assumption) _).mono ?_; rintro e wz ⟨rfl, hw1⟩; have hw2 := hw1.symm; clear hw1; subst hw2)
      | (go_at_call 31; refine (krInfQ (by assumption) _).mono ?_; rintro e wz ⟨rfl, hw1⟩; have hw2 := hw1.symm; clear hw1; subst hw2)
      | (go_at_call 37; refine (krNeg0 (by assumption) _).mono ?_; rintro e wz ⟨rfl, hw1⟩; have hw2 := hw1.symm; clear hw1; subst hw2)
      | (go_at_call 29; refine (krNought (by assumption) _).mono ?_; rintro e wz ⟨rfl, hw1⟩; have hw2 := hw1.symm; clear hw1; subst hw2))
    go_ret
    exact ⟨rfl, B6.out⟩
  · cases up
    · have S5 := Lib.hid (show (dig (Q + 0)).length ≤ 300 from Nat.le_trans (dig_len hQ) (by decide))
      clear kw h41 hQ
      simp only [Bool.and_false, Bool.toNat_false]
      go_enter Tryz.func96, Tryz.ntmps96
      go_wp2_with (first
        | (go_at_call 68; refine (kroundR (isNeg a) 0 false K3.out S5.out (by omega) (by intro h; cases h)).mono ?_; rintro e w6 ⟨rfl, b6⟩; have B6 := Lib.hid (B3.out.trans (b6.mono B3.out.size)); clear b6)
        | (go_at_call 72; refine (KW.out).mono ?_; rintro e w3 ⟨p3, rfl, k3, b3⟩; have K3 := Lib.hid k3; have B3 := Lib.hid b3; clear k3 b3)
        | (go_at_call 30; refine (krNaN (by assumption) _).mono ?_; rintro e wz ⟨rfl, hw1⟩; have hw2 := hw1.symm; clear hw1; subst hw2)
        | (go_at_call 31; refine (krInfQ (by assumption) _).mono ?_; rintro e wz ⟨rfl, hw1⟩; have hw2 := hw1.symm; clear hw1; subst hw2)
        | (go_at_call 37; refine (krNeg0 (by assumption) _).mono ?_; rintro e wz ⟨rfl, hw1⟩; have hw2 := hw1.symm; clear hw1; subst hw2)
        | (go_at_call 29; refine (krNought (by assumption) _).mono ?_; rintro e wz ⟨rfl, hw1⟩; have hw2 := hw1.symm; clear hw1; subst hw2))
      go_ret
      exact ⟨rfl, B6.out⟩
    · have S5 := Lib.hid (show (dig (Q + 1)).length ≤ 300 from Nat.le_trans (dig_len (k := 41) (by omega)) (by decide))
      clear kw h41 hQ
      simp only [Bool.and_true, Bool.toNat_true]
      go_enter Tryz.func96, Tryz.ntmps96
      go_wp2_with (first
        | (go_at_call 68; refine (kroundR (isNeg a) 0 false K5.out S5.out (by omega) (by intro h; cases h)).mono ?_; rintro e w6 ⟨rfl, b6⟩; have B6 := Lib.hid (B5.out.trans (b6.mono B5.out.size)); clear b6)
        | (go_at_call 85; refine (kplus K3b.out K4.out S3.out S4.out).mono ?_; rintro e w5 ⟨p5, rfl, k5, b5⟩; have K5 := Lib.hid k5; have B5 := Lib.hid (B4.out.trans (b5.mono B4.out.size)); clear k5 b5)
        | (go_at_call 69; refine (kfrom (n := 1) (by decide) _).mono ?_; rintro e w4 ⟨p4, rfl, k4, b4⟩; have K4 := Lib.hid k4; have K3b := Lib.hid (K3.out.keep b4); have B4 := Lib.hid (B3.out.trans (b4.mono B3.out.size)); clear k4 b4)
        | (go_at_call 72; refine (KW.out).mono ?_; rintro e w3 ⟨p3, rfl, k3, b3⟩; have K3 := Lib.hid k3; have B3 := Lib.hid b3; clear k3 b3)
        | (go_at_call 30; refine (krNaN (by assumption) _).mono ?_; rintro e wz ⟨rfl, hw1⟩; have hw2 := hw1.symm; clear hw1; subst hw2)
        | (go_at_call 31; refine (krInfQ (by assumption) _).mono ?_; rintro e wz ⟨rfl, hw1⟩; have hw2 := hw1.symm; clear hw1; subst hw2)
        | (go_at_call 37; refine (krNeg0 (by assumption) _).mono ?_; rintro e wz ⟨rfl, hw1⟩; have hw2 := hw1.symm; clear hw1; subst hw2)
        | (go_at_call 29; refine (krNought (by assumption) _).mono ?_; rintro e wz ⟨rfl, hw1⟩; have hw2 := hw1.symm; clear hw1; subst hw2))
      go_ret
      exact ⟨rfl, B6.out⟩
theorem krstep {way : Ieee.Toward} (hw : way ≠ .even) {a : Nat} (ha : a < 2 ^ 64) (up : Bool) (hup : ∀ rest, carry way (isNeg a) rest = (rest && up)) (w : World) : Kb 96 #[wd a, .bool up] w (wd (wayV way a)) := by
  cases na : nanW a
  · by_cases hi : rung a = infR
    · rw [wayV_inf ha hi]
      exact krstep2 ha up na (infT hi) w
    · have hf : rung a < infR := by have := nan_false na; omega
      rw [wayV_round hw hf, hup]
      exact krstep3 ha up _ na (infF hi) (val_small hf) w (krwhole ha hf w)
  · rw [wayV_nan na]
    exact krstep1 ha up na w

theorem krfloor {a : Nat} (ha : a < 2 ^ 64) (w : World) : Kb 80 #[wd a] w (wd (wayV .down a)) := by
  have K := Lib.hid (krstep (way := .down) (by decide) ha (isNeg a) (fun rest => by unfold carry; exact Bool.and_comm _ _) w)
  go_enter Tryz.func80, Tryz.ntmps80
  go_wp2_with (first
    | (go_at_call 96; refine (K.out).mono ?_; rintro e w3 ⟨rfl, b3⟩; have B3 := Lib.hid b3; clear b3)
    | (go_at_call 30; refine (krNaN (by assumption) _).mono ?_; rintro e wz ⟨rfl, hw1⟩; have hw2 := hw1.symm; clear hw1; subst hw2)
    | (go_at_call 31; refine (krInfQ (by assumption) _).mono ?_; rintro e wz ⟨rfl, hw1⟩; have hw2 := hw1.symm; clear hw1; subst hw2)
    | (go_at_call 37; refine (krNeg0 (by assumption) _).mono ?_; rintro e wz ⟨rfl, hw1⟩; have hw2 := hw1.symm; clear hw1; subst hw2)
    | (go_at_call 29; refine (krNought (by assumption) _).mono ?_; rintro e wz ⟨rfl, hw1⟩; have hw2 := hw1.symm; clear hw1; subst hw2))
  go_ret
  exact ⟨rfl, B3.out⟩

theorem krtrunc {a : Nat} (ha : a < 2 ^ 64) (w : World) : Kb 67 #[wd a] w (wd (wayV .zero a)) := by
  have K := Lib.hid (krstep (way := .zero) (by decide) ha (false) (fun rest => by unfold carry; simp) w)
  go_enter Tryz.func67, Tryz.ntmps67
  go_wp2_with (first
    | (go_at_call 96; refine (K.out).mono ?_; rintro e w3 ⟨rfl, b3⟩; have B3 := Lib.hid b3; clear b3)
    | (go_at_call 30; refine (krNaN (by assumption) _).mono ?_; rintro e wz ⟨rfl, hw1⟩; have hw2 := hw1.symm; clear hw1; subst hw2)
    | (go_at_call 31; refine (krInfQ (by assumption) _).mono ?_; rintro e wz ⟨rfl, hw1⟩; have hw2 := hw1.symm; clear hw1; subst hw2)
    | (go_at_call 37; refine (krNeg0 (by assumption) _).mono ?_; rintro e wz ⟨rfl, hw1⟩; have hw2 := hw1.symm; clear hw1; subst hw2)
    | (go_at_call 29; refine (krNought (by assumption) _).mono ?_; rintro e wz ⟨rfl, hw1⟩; have hw2 := hw1.symm; clear hw1; subst hw2))
  go_ret
  exact ⟨rfl, B3.out⟩

end Go.Proofs.YtoodbdjmbicaeaaGreatDoor
