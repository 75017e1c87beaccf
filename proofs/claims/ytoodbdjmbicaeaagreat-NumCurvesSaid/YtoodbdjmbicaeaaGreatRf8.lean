/- The document's Sqrt and Whole. No condition. -/
import Derived.Test.YtoodbdjmbicaeaaGreatRf7
namespace Go.Proofs.YtoodbdjmbicaeaaGreat
open Go.RowKit
set_option maxRecDepth 8000
set_option maxHeartbeats 1000000
set_option linter.unusedVariables false
set_option linter.unusedSimpArgs false

theorem sqrt_nought {a : Nat} (ha : a < 2 ^ 64) (h0 : rung a = 0) : opt (Ieee.double.sqrt a) = a := by
  unfold Ieee.Format.sqrt
  have e : Ieee.double.read a = .number (isNeg a) 0 (-1074) := by
    rw [read_num (by rw [h0]; decide), h0]
    rfl
  rw [e]
  show opt (some (Ieee.double.write (.number (isNeg a) 0 (-1074)))) = a
  have hr : rnd 0 (-1074) = 0 := by unfold rnd; rw [if_pos rfl]
  rw [write_num, hr, Nat.zero_min, word_zero, ← h0, word_split ha]
theorem sqrt_negs {a : Nat} (hs : isNeg a = true) (h0 : rung a ≠ 0) (hn : nanW a = false) : Ieee.double.sqrt a = none := by
  unfold Ieee.Format.sqrt
  by_cases hi : rung a = infR
  · rw [read_inf hi, hs]; rfl
  · have hf : rung a < infR := by have := nan_false hn; omega
    rw [read_num hf, hs]
    have hm : mg (rung a) ≠ 0 := fun h => h0 (mg_zero.1 h)
    obtain ⟨m, hmm⟩ : ∃ m, mg (rung a) = m := ⟨_, rfl⟩
    rw [hmm] at hm ⊢
    show Option.map _ (Ieee.Datum.root _ (.number true m _)) = none
    simp only [Ieee.Datum.root, if_neg hm]
    rfl
theorem sqrt_nan {a : Nat} (hn : nanW a = true) : Ieee.double.sqrt a = none := by
  unfold Ieee.Format.sqrt
  rw [read_nan hn]
  rfl
theorem tdiv_even {x : Int} (h : x % 2 = 0) : x.tdiv 2 = x / 2 := by
  exact Int.tdiv_eq_ediv_of_dvd (Int.dvd_of_emod_eq_zero h)
theorem kq1 {a : Nat} (ha : a < 2 ^ 64) (na : nanW a = true) (w : World) : Kb 51 #[wd a] w (wd theNaN) := by
  go_enter Tryz.func51, Tryz.ntmps51
  go_wp2_with (first
    | (go_at_call 48; refine (krNaN (by assumption) _).mono ?_; rintro e wz ⟨rfl, hw1⟩; have hw2 := hw1.symm; clear hw1; subst hw2)
    | (go_at_call 81; refine (krInfQ (by assumption) _).mono ?_; rintro e wz ⟨rfl, hw1⟩; have hw2 := hw1.symm; clear hw1; subst hw2)
    | (go_at_call 80; refine (krNeg0 (by assumption) _).mono ?_; rintro e wz ⟨rfl, hw1⟩; have hw2 := hw1.symm; clear hw1; subst hw2)
    | (go_at_call 78; refine (krNought (by assumption) _).mono ?_; rintro e wz ⟨rfl, hw1⟩; have hw2 := hw1.symm; clear hw1; subst hw2))
  go_ret
  exact ⟨rfl, Below.refl _ _⟩
theorem kq2 {a : Nat} (ha : a < 2 ^ 64) (na : nanW a = false) (za : zeroW a = true) (w : World) : Kb 51 #[wd a] w (wd a) := by
  go_enter Tryz.func51, Tryz.ntmps51
  go_wp2_with (first
    | (go_at_call 48; refine (krNaN (by assumption) _).mono ?_; rintro e wz ⟨rfl, hw1⟩; have hw2 := hw1.symm; clear hw1; subst hw2)
    | (go_at_call 81; refine (krInfQ (by assumption) _).mono ?_; rintro e wz ⟨rfl, hw1⟩; have hw2 := hw1.symm; clear hw1; subst hw2)
    | (go_at_call 80; refine (krNeg0 (by assumption) _).mono ?_; rintro e wz ⟨rfl, hw1⟩; have hw2 := hw1.symm; clear hw1; subst hw2)
    | (go_at_call 78; refine (krNought (by assumption) _).mono ?_; rintro e wz ⟨rfl, hw1⟩; have hw2 := hw1.symm; clear hw1; subst hw2))
  go_ret
  exact ⟨rfl, Below.refl _ _⟩
theorem kq3 {a : Nat} (ha : a < 2 ^ 64) (na : nanW a = false) (za : zeroW a = false) (ga : isNeg a = true) (w : World) : Kb 51 #[wd a] w (wd theNaN) := by
  go_enter Tryz.func51, Tryz.ntmps51
  go_wp2_with (first
    | (go_at_call 48; refine (krNaN (by assumption) _).mono ?_; rintro e wz ⟨rfl, hw1⟩; have hw2 := hw1.symm; clear hw1; subst hw2)
    | (go_at_call 81; refine (krInfQ (by assumption) _).mono ?_; rintro e wz ⟨rfl, hw1⟩; have hw2 := hw1.symm; clear hw1; subst hw2)
    | (go_at_call 80; refine (krNeg0 (by assumption) _).mono ?_; rintro e wz ⟨rfl, hw1⟩; have hw2 := hw1.symm; clear hw1; subst hw2)
    | (go_at_call 78; refine (krNought (by assumption) _).mono ?_; rintro e wz ⟨rfl, hw1⟩; have hw2 := hw1.symm; clear hw1; subst hw2))
  go_ret
  exact ⟨rfl, Below.refl _ _⟩
theorem kq4 {a : Nat} (ha : a < 2 ^ 64) (na : nanW a = false) (za : zeroW a = false) (ga : isNeg a = false) (ia : isInfW a = true) (w : World) : Kb 51 #[wd a] w (wd a) := by
  go_enter Tryz.func51, Tryz.ntmps51
  go_wp2_with (first
    | (go_at_call 48; refine (krNaN (by assumption) _).mono ?_; rintro e wz ⟨rfl, hw1⟩; have hw2 := hw1.symm; clear hw1; subst hw2)
    | (go_at_call 81; refine (krInfQ (by assumption) _).mono ?_; rintro e wz ⟨rfl, hw1⟩; have hw2 := hw1.symm; clear hw1; subst hw2)
    | (go_at_call 80; refine (krNeg0 (by assumption) _).mono ?_; rintro e wz ⟨rfl, hw1⟩; have hw2 := hw1.symm; clear hw1; subst hw2)
    | (go_at_call 78; refine (krNought (by assumption) _).mono ?_; rintro e wz ⟨rfl, hw1⟩; have hw2 := hw1.symm; clear hw1; subst hw2))
  go_ret
  exact ⟨rfl, Below.refl _ _⟩
theorem kq5 {a m : Nat} {i E : Int} (ha : a < 2 ^ 64) (na : nanW a = false) (za : zeroW a = false) (ga : isNeg a = false) (ia : isInfW a = false) (ml : m < 2 ^ 53) (hib : -1074 ≤ i ∧ i ≤ 1000) (k : Nat) (hk : k = 120 ∨ k = 121)
    (t1 : ((i.tmod 2) != 0) = (k == 121)) (t2 : (i - (k : Int)).tdiv 2 = E) (hE : -5000 ≤ E ∧ E ≤ 5000) (w : World)
    (oa : Kp 82 #[wd a] w (.tuple #[wd m, .int .i64 i])) (V : Nat) (hV : ∀ r, r * r ≤ m * 2 ^ k → m * 2 ^ k < (r + 1) * (r + 1) → 2 ^ 53 ≤ r ∧ roundW false r E (r * r != m * 2 ^ k) = V) :
    Kb 51 #[wd a] w (wd V) := by
  unfold Kb
  obtain ⟨base, hbase⟩ : ∃ base, w.heap.size = base := ⟨_, rfl⟩
  rw [hbase]
  have OA := Lib.hid oa
  have HV := Lib.hid hV
  have ml2 : m < 2 ^ 64 := by omega
  have sm : (dig m).length ≤ 2 := dig_len (k := 2) (Nat.lt_of_lt_of_le ml (by decide))
  have SM := Lib.hid (show (dig m).length ≤ 1000 by omega)
  have hNl : m * 2 ^ k < bp 6 := by
    have h1 : m * 2 ^ k < 2 ^ 53 * 2 ^ k := Nat.mul_lt_mul_of_pos_right ml (Nat.two_pow_pos _)
    have h2 : 2 ^ 53 * 2 ^ k ≤ 2 ^ 53 * 2 ^ 121 := Nat.mul_le_mul_left _ (Nat.pow_le_pow_right (by decide) (by omega))
    have h3 : 2 ^ 53 * 2 ^ 121 ≤ bp 6 := by decide
    omega
  have SN := Lib.hid (Nat.le_trans (dig_len hNl) (show 6 ≤ 100 by decide))
  have HNL := Lib.hid hNl
  have hk10 : k ≤ 10000 := by omega
  obtain ⟨N, hN⟩ : ∃ N, m * 2 ^ k = N := ⟨_, rfl⟩
  rw [hN] at SN HV HNL
  have HN := Lib.hid hN
  clear oa hV sm hNl hN
  rcases hk with rfl | rfl

  · have t1' : ((i.tmod 2) != 0) = false := t1
    have t2' : (i - 120).tdiv 2 = E := t2
    clear t1 t2
    go_enter Tryz.func51, Tryz.ntmps51
    go_wp2_with (first
      | (go_at_call 85; refine (kroundR false E (!(cm == 0)) K5.out S5.out (by omega) (fun _ => H54.out)).mono ?_; rw [HVV.out]; rintro e w8 ⟨rfl, b8⟩; have B8 := Lib.hid (B7.out.trans (b8.mono (by have := B7.out.size; omega))); clear b8)
      | (go_at_call 99; refine (kless K6.out K4c.out).mono ?_; rw [HCM.out]; rintro e w7 ⟨rfl, n7, hw7⟩; have B7 := Lib.hid (show Below base w w7 by rw [hw7]; exact B6.out.trans (drew_below _ _ _)); have K5 := Lib.hid (show Bg base w7 p5 r by rw [hw7]; exact (K5b.out.keep (drew_below _ _ _))); clear hw7)
      | (go_at_call 100; refine (ktimes K5a.out K5a.out S6.out S6.out).mono ?_; rintro e w6 ⟨p6, rfl, k6, b6⟩; have K6 := Lib.hid k6; have K5b := Lib.hid (K5a.out.keep b6); have K4c := Lib.hid (K4b.out.keep b6); have B6 := Lib.hid (B5.out.trans (b6.mono (by have := B5.out.size; omega))); clear k6 b6)
      | (go_at_call 98; refine (kroot K4.out SN.out).mono ?_; rintro e w5 ⟨p5, r, rfl, k5, b5, hr1, hr2⟩; have K5a := Lib.hid (k5.low (lo' := base) (by have := B4.out.size; omega)); have K4b := Lib.hid (K4.out.keep b5); have B5 := Lib.hid (B4.out.trans (b5.mono (by have := B4.out.size; omega))); have hvv := HV.out r hr1 hr2; have hrl : r < bp 6 := Nat.lt_of_le_of_lt (Nat.le_trans (Nat.le_mul_self r) hr1) HNL.out; have S5 := Lib.hid (Nat.le_trans (dig_len hrl) (show 6 ≤ 300 by decide)); have S6 := Lib.hid (Nat.le_trans (dig_len hrl) (show 6 ≤ 1000 by decide)); have H54 := Lib.hid (show 54 ≤ size r from Nat.le_of_not_lt fun h => by have := size_le.1 (show size r ≤ 53 by omega); omega); obtain ⟨cm, hcm⟩ : ∃ cm, cmpN (r * r) N = cm := ⟨_, rfl⟩; have hex : (!(cm == 0)) = (r * r != N) := by
          rw [← hcm]; unfold cmpN
          by_cases h0 : r * r = N
          · rw [if_neg (by omega), if_neg (by omega), h0]; simp
          · rw [show (r * r != N) = true from bne_iff_ne.2 h0]; split
            · rfl
            · rw [if_pos (by omega)]; rfl
         have HCM := Lib.hid hcm; have HVV := Lib.hid (show roundW false r E (!(cm == 0)) = V by rw [hex]; exact hvv.2); clear hvv hr1 hr2 hrl k5 b5 hcm hex)
      | (go_at_call 94; refine (kup K3.out 120 hk10 SM.out).mono ?_; rw [HN.out]; rintro e w4 ⟨p4, rfl, k4, b4⟩; have K4 := Lib.hid (k4.low (lo' := base) (by have := B3.out.size; omega)); have B4 := Lib.hid (B3.out.trans (b4.mono (by have := B3.out.size; omega))); clear k4 b4)
      | (go_at_call 84; refine (kfrom ml2 _).mono ?_; rintro e w3 ⟨p3, rfl, k3, b3⟩; rw [hbase] at k3 b3; have K3 := Lib.hid k3; have B3 := Lib.hid b3; clear k3 b3)
      | (go_at_call 82; refine (OA.out).mono ?_; rintro e wz ⟨rfl, hw1⟩; have hw2 := hw1.symm; clear hw1; subst hw2)
      | (go_at_call 48; refine (krNaN (by assumption) _).mono ?_; rintro e wz ⟨rfl, hw1⟩; have hw2 := hw1.symm; clear hw1; subst hw2)
      | (go_at_call 81; refine (krInfQ (by assumption) _).mono ?_; rintro e wz ⟨rfl, hw1⟩; have hw2 := hw1.symm; clear hw1; subst hw2)
      | (go_at_call 80; refine (krNeg0 (by assumption) _).mono ?_; rintro e wz ⟨rfl, hw1⟩; have hw2 := hw1.symm; clear hw1; subst hw2)
      | (go_at_call 78; refine (krNought (by assumption) _).mono ?_; rintro e wz ⟨rfl, hw1⟩; have hw2 := hw1.symm; clear hw1; subst hw2))
    go_ret
    exact ⟨rfl, B8.out⟩

  · have t1' : ((i.tmod 2) != 0) = true := t1
    have t2' : (i - 121).tdiv 2 = E := t2
    clear t1 t2
    go_enter Tryz.func51, Tryz.ntmps51
    go_wp2_with (first
      | (go_at_call 85; refine (kroundR false E (!(cm == 0)) K5.out S5.out (by omega) (fun _ => H54.out)).mono ?_; rw [HVV.out]; rintro e w8 ⟨rfl, b8⟩; have B8 := Lib.hid (B7.out.trans (b8.mono (by have := B7.out.size; omega))); clear b8)
      | (go_at_call 99; refine (kless K6.out K4c.out).mono ?_; rw [HCM.out]; rintro e w7 ⟨rfl, n7, hw7⟩; have B7 := Lib.hid (show Below base w w7 by rw [hw7]; exact B6.out.trans (drew_below _ _ _)); have K5 := Lib.hid (show Bg base w7 p5 r by rw [hw7]; exact (K5b.out.keep (drew_below _ _ _))); clear hw7)
      | (go_at_call 100; refine (ktimes K5a.out K5a.out S6.out S6.out).mono ?_; rintro e w6 ⟨p6, rfl, k6, b6⟩; have K6 := Lib.hid k6; have K5b := Lib.hid (K5a.out.keep b6); have K4c := Lib.hid (K4b.out.keep b6); have B6 := Lib.hid (B5.out.trans (b6.mono (by have := B5.out.size; omega))); clear k6 b6)
      | (go_at_call 98; refine (kroot K4.out SN.out).mono ?_; rintro e w5 ⟨p5, r, rfl, k5, b5, hr1, hr2⟩; have K5a := Lib.hid (k5.low (lo' := base) (by have := B4.out.size; omega)); have K4b := Lib.hid (K4.out.keep b5); have B5 := Lib.hid (B4.out.trans (b5.mono (by have := B4.out.size; omega))); have hvv := HV.out r hr1 hr2; have hrl : r < bp 6 := Nat.lt_of_le_of_lt (Nat.le_trans (Nat.le_mul_self r) hr1) HNL.out; have S5 := Lib.hid (Nat.le_trans (dig_len hrl) (show 6 ≤ 300 by decide)); have S6 := Lib.hid (Nat.le_trans (dig_len hrl) (show 6 ≤ 1000 by decide)); have H54 := Lib.hid (show 54 ≤ size r from Nat.le_of_not_lt fun h => by have := size_le.1 (show size r ≤ 53 by omega); omega); obtain ⟨cm, hcm⟩ : ∃ cm, cmpN (r * r) N = cm := ⟨_, rfl⟩; have hex : (!(cm == 0)) = (r * r != N) := by
          rw [← hcm]; unfold cmpN
          by_cases h0 : r * r = N
          · rw [if_neg (by omega), if_neg (by omega), h0]; simp
          · rw [show (r * r != N) = true from bne_iff_ne.2 h0]; split
            · rfl
            · rw [if_pos (by omega)]; rfl
         have HCM := Lib.hid hcm; have HVV := Lib.hid (show roundW false r E (!(cm == 0)) = V by rw [hex]; exact hvv.2); clear hvv hr1 hr2 hrl k5 b5 hcm hex)
      | (go_at_call 94; refine (kup K3.out 121 hk10 SM.out).mono ?_; rw [HN.out]; rintro e w4 ⟨p4, rfl, k4, b4⟩; have K4 := Lib.hid (k4.low (lo' := base) (by have := B3.out.size; omega)); have B4 := Lib.hid (B3.out.trans (b4.mono (by have := B3.out.size; omega))); clear k4 b4)
      | (go_at_call 84; refine (kfrom ml2 _).mono ?_; rintro e w3 ⟨p3, rfl, k3, b3⟩; rw [hbase] at k3 b3; have K3 := Lib.hid k3; have B3 := Lib.hid b3; clear k3 b3)
      | (go_at_call 82; refine (OA.out).mono ?_; rintro e wz ⟨rfl, hw1⟩; have hw2 := hw1.symm; clear hw1; subst hw2)
      | (go_at_call 48; refine (krNaN (by assumption) _).mono ?_; rintro e wz ⟨rfl, hw1⟩; have hw2 := hw1.symm; clear hw1; subst hw2)
      | (go_at_call 81; refine (krInfQ (by assumption) _).mono ?_; rintro e wz ⟨rfl, hw1⟩; have hw2 := hw1.symm; clear hw1; subst hw2)
      | (go_at_call 80; refine (krNeg0 (by assumption) _).mono ?_; rintro e wz ⟨rfl, hw1⟩; have hw2 := hw1.symm; clear hw1; subst hw2)
      | (go_at_call 78; refine (krNought (by assumption) _).mono ?_; rintro e wz ⟨rfl, hw1⟩; have hw2 := hw1.symm; clear hw1; subst hw2))
    go_ret
    exact ⟨rfl, B8.out⟩

theorem krsqrt {a : Nat} (ha : a < 2 ^ 64) (w : World) : Kb 51 #[wd a] w (wd (opt (Ieee.double.sqrt a))) := by
  cases na : nanW a
  · by_cases h0 : rung a = 0
    · rw [sqrt_nought ha h0]
      exact kq2 ha na (zeroT h0) w
    · cases ga : isNeg a
      · by_cases hi : rung a = infR
        · rw [sqrt_inf ga hi, opt_word (Nat.le_refl _)]
          have : Ieee.double.word false infR = a := by rw [← ga, ← hi, word_split ha]
          rw [this]
          exact kq4 ha na (zeroF h0) ga (infT hi) w
        · have hf : rung a < infR := by have := nan_false na; omega
          have hpl := pl_le hf
          obtain ⟨i, hii⟩ : ∃ i : Int, -1074 + (pl (rung a) : Int) = i := ⟨_, rfl⟩
          have OA := kropen ha w
          rw [hii] at OA
          have hodd : i.tmod 2 = 0 ∧ i % 2 = 0 ∨ i.tmod 2 ≠ 0 ∧ i % 2 = 1 := by
            by_cases h : (2 : Int) ∣ i
            · exact .inl ⟨Int.tmod_eq_zero_of_dvd h, Int.emod_eq_zero_of_dvd h⟩
            · exact .inr ⟨fun e => h (Int.dvd_of_tmod_eq_zero e), by omega⟩
          rcases hodd with ⟨d1, d2⟩ | ⟨d1, d2⟩
          · refine kq5 ha na (zeroF h0) ga (infF hi) (mg_lt _) (by omega) 120 (.inl rfl) (by rw [d1]; rfl) rfl ?_ w OA _ (fun r h1 h2 => ?_)
            · have e : (i - ((120 : Nat) : Int)).tdiv 2 = (i - 120) / 2 := tdiv_even (by omega)
              rw [e]; omega
            · obtain ⟨q1, q2⟩ := sqrt_ref hf ga h0 (.inl rfl) (by rw [hii]; omega) h1 h2
              refine ⟨q1, ?_⟩
              rw [q2, hii]
              have e : (i - ((120 : Nat) : Int)).tdiv 2 = (i - ((120 : Nat) : Int)) / 2 := tdiv_even (by omega)
              rw [e]
          · refine kq5 ha na (zeroF h0) ga (infF hi) (mg_lt _) (by omega) 121 (.inr rfl) (by rw [bne_iff_ne.2 d1]; rfl) rfl ?_ w OA _ (fun r h1 h2 => ?_)
            · have e : (i - ((121 : Nat) : Int)).tdiv 2 = (i - 121) / 2 := tdiv_even (by omega)
              rw [e]; omega
            · obtain ⟨q1, q2⟩ := sqrt_ref hf ga h0 (.inr rfl) (by rw [hii]; omega) h1 h2
              refine ⟨q1, ?_⟩
              rw [q2, hii]
              have e : (i - ((121 : Nat) : Int)).tdiv 2 = (i - ((121 : Nat) : Int)) / 2 := tdiv_even (by omega)
              rw [e]
      · rw [sqrt_negs ga h0 na]
        exact kq3 ha na (zeroF h0) ga w
  · rw [sqrt_nan na]
    exact kq1 ha na w
end Go.Proofs.YtoodbdjmbicaeaaGreat
