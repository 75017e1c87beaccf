/- Whole numbers of the document's answer: the root. No condition. -/
import Derived.Test.YtoodbdjmbicaeaaGreatWn8
namespace Go.Proofs.YtoodbdjmbicaeaaGreat
open Go.RowKit
set_option maxRecDepth 8000
set_option maxHeartbeats 1000000
set_option linter.unusedVariables false

theorem Bg.keep {lo : Nat} {w w' : World} {v : Value} {n : Nat} (h : Bg lo w v n) (hb : Below w.heap.size w w') : Bg lo w' v n := (Sl.below h hb (Nat.le_refl _)).mono (Nat.le_refl _) hb.size
theorem Bg.low {lo lo' : Nat} {w : World} {v : Value} {n : Nat} (h : Bg lo w v n) (h1 : lo' ≤ lo) : Bg lo' w v n := Sl.mono h h1 (Nat.le_refl _)
theorem drew_below (w : World) (B n : Nat) : Below B w (w.drewN n) := ⟨rfl, rfl, rfl, Nat.le_refl _, fun _ _ => rfl⟩
theorem Bg.zero (lo : Nat) (w : World) : Bg lo w (.slice none 0 0) 0 := by
  show Sl lo w.heap.size f32 w (.slice none 0 0) (dig 0)
  rw [dig_zero]
  exact Sl.nil _ _ _ _
theorem dig_len {n k : Nat} (h : n < bp k) : (dig n).length ≤ k := dig_len_le h
theorem lt_bp (n : Nat) : n < bp (dig n).length := dig_lt n
theorem two_lt_bp {i k : Nat} (h : i < 32 * k) : 2 ^ i < bp k := by
  show 2 ^ i < 4294967296 ^ k
  rw [b_pow]
  exact Nat.pow_lt_pow_right (by decide) h

theorem kroot {lo : Nat} {w : World} {v : Value} {a : Nat} (h : Bg lo w v a) (sa : (dig a).length ≤ 100) :
    Calls Tryz.prog 98 #[v] w fun e w' => ∃ u r, e = .returned u ∧ Bg w.heap.size w' u r ∧ Below w.heap.size w w' ∧ r * r ≤ a ∧ a < (r + 1) * (r + 1) := by
  have H := Lib.hid h
  have hsz : size a ≤ 3200 := by
    have : size a ≤ 32 * (dig a).length := size_le.2 (by rw [← b_pow]; exact dig_lt a)
    omega
  have hal : a < bp 100 := Nat.lt_of_lt_of_le (lt_bp a) (bp_le sa)
  obtain ⟨base, hbase⟩ : ∃ base, w.heap.size = base := ⟨_, rfl⟩
  obtain ⟨S, hS⟩ : ∃ S, size a = S := ⟨_, rfl⟩
  have hsz0 : a < (2 ^ ((S + 1) / 2 + 1)) * (2 ^ ((S + 1) / 2 + 1)) := by
    have : a < 2 ^ S := by rw [← size_le, hS]; exact Nat.le_refl _
    rw [← Nat.pow_add]
    exact Nat.lt_of_lt_of_le this (Nat.pow_le_pow_right (by decide) (by omega))
  have HS := Lib.hid hS
  have HZ := Lib.hid hsz0
  have HAL := Lib.hid hal
  rw [hS] at hsz
  rw [hbase]
  clear h hS hsz0 hal
  obtain ⟨T, hT⟩ : ∃ T, (S + 1) / 2 = T := ⟨_, rfl⟩
  have hT1 : ((S : Int) + 1) / 2 = (T : Int) := by omega
  rw [hT] at HZ
  have hT2 : T ≤ 1601 := by omega
  go_enter Tryz.func98, Tryz.ntmps98
  go_wp2_with (go_at_call 83; refine (kbsize H.out).mono ?_; rw [HS.out]; rintro e w1 ⟨rfl, hw1⟩; have hw2 := hw1.symm; clear hw1; subst hw2)
  rw [hT1]
  clear hT1
  go_loopw [3, 4] (fun u y wr => ∃ (r j : Nat) (z : Int), y = .int .i64 z ∧ z = (j : Int) - 1 ∧ j ≤ T + 1 ∧ r * r ≤ a ∧ a < (r + 2 ^ j) * (r + 2 ^ j) ∧ Bg base wr u r ∧ Below base w wr) (fun _ y _ => ((intOf y) + 1).toNat)
  case atStart => exact ⟨0, T + 1, (T : Int), rfl, by omega, Nat.le_refl _, Nat.zero_le _, by rw [Nat.zero_add]; exact HZ.out, Bg.zero _ _, by rw [← hbase]; exact Below.refl _ _⟩
  case round =>
    obtain ⟨r, j, z, rfl, hz, hj, hr1, hr2, hbg, hbel⟩ := hrel
    have R1 := Lib.hid hr1
    have R2 := Lib.hid hr2
    have BG := Lib.hid hbg
    have BL := Lib.hid hbel
    by_cases hj0 : j = 0
    · subst hj0
      obtain rfl : z = -1 := by omega
      clear hz hr1 hr2 hbg hbel
      go_wp2
      go_ret
      exact ⟨_, r, rfl, BG.out, BL.out, R1.out, R2.out⟩
    · obtain ⟨i, rfl⟩ : ∃ i, j = i + 1 := ⟨j - 1, by omega⟩
      obtain rfl : z = (i : Int) := by omega
      have hra : r ≤ a := Nat.le_trans (Nat.le_mul_self r) hr1
      have hil : i < 32 * 100 := by omega
      have hpi : 2 ^ i < bp 100 := two_lt_bp hil
      have e1 : 1 * 2 ^ i = 2 ^ i := Nat.one_mul _
      obtain ⟨x, hx⟩ : ∃ x, r + 2 ^ i = x := ⟨_, rfl⟩
      have h101 : bp 101 = bp 100 * 4294967296 := bp_succ 100
      have s1 : (dig r).length ≤ 1000 := Nat.le_trans (dig_len (k := 100) (by have := HAL.out; omega)) (by decide)
      have s2 : (dig (2 ^ i)).length ≤ 1000 := Nat.le_trans (dig_len hpi) (by decide)
      have s3 : (dig x).length ≤ 1000 := Nat.le_trans (dig_len (k := 101) (by have := HAL.out; omega)) (by decide)
      have s4 : (dig 1).length ≤ 1000 := Nat.le_trans (dig_len (k := 1) (by decide)) (by decide)
      have hbw : base ≤ wr.heap.size := by rw [← hbase]; exact hbel.size
      have HX := Lib.hid hx
      have E1 := Lib.hid e1
      have hlo : lo ≤ lo := Nat.le_refl _
      have S1 := Lib.hid s1
      have S2 := Lib.hid s2
      have S3 := Lib.hid s3
      have S4 := Lib.hid s4
      have hc : x * x ≤ a ∨ a < x * x := Nat.lt_or_ge a (x * x) |>.symm
      have i0 : (0 : Int) ≤ (i : Int) := by omega
      clear hz hr1 hr2 hbg hbel hj0 hra hpi e1 hx h101 s1 s2 s3 s4 hil hlo
      rcases hc with hc | hc
      · have hcv : cmpN (x * x) a = -1 ∨ cmpN (x * x) a = 0 := by
          unfold cmpN
          by_cases h1 : x * x < a
          · left; rw [if_pos h1]
          · right; rw [if_neg h1, if_neg (by omega)]
        have hcl : cmpN (x * x) a ≤ 0 := by omega
        have HCC := Lib.hid hc
        clear hc hcv
        go_wp2_with (first
          | (go_at_call 99; refine (kless K6.out (H.out.keep (w' := w6) (by rw [hbase]; exact B6.out))).mono ?_; rintro e w7 ⟨rfl, n7, rfl⟩)
          | (go_at_call 100; refine (ktimes K5.out K5.out S3.out S3.out).mono ?_; rintro e w6 ⟨p6, rfl, k6, b6⟩; have K6 := Lib.hid k6; have X6 := Lib.hid (K5.out.keep b6); have BG6 := Lib.hid (BG5.out.keep b6); have B6 := Lib.hid (B5.out.trans (b6.mono (by have := B5.out.size; omega))); clear k6 b6)
          | (go_at_call 110; refine (kplus (BG4.out) K4.out S1.out S2.out).mono ?_; rintro e w5 ⟨p5, rfl, k5, b5⟩; rw [HX.out] at k5; have BG5 := Lib.hid (BG4.out.keep b5); have K5 := Lib.hid (k5.low (lo' := base) (by have := B4.out.size; omega)); have B5 := Lib.hid (B4.out.trans (b5.mono (by have := B4.out.size; omega))); clear k5 b5)
          | (go_at_call 94; refine (kup K3.out i (by omega) S4.out).mono ?_; rintro e w4 ⟨p4, rfl, k4, b4⟩; rw [E1.out] at k4; have K4 := Lib.hid k4; have BG4 := Lib.hid (BG3.out.keep b4); have B4 := Lib.hid (B3.out.trans (b4.mono (by have := B3.out.size; omega))); clear k4 b4)
          | (go_at_call 84; refine (kfrom (n := 1) (by decide) wr).mono ?_; rintro e w3 ⟨p3, rfl, k3, b3⟩; have K3 := Lib.hid k3; have BG3 := Lib.hid (BG.out.keep b3); have B3 := Lib.hid (BL.out.trans (b3.mono hbw)); clear k3 b3))
        go_roundw
        case rel =>
          refine ⟨x, i, (i : Int) - 1, rfl, rfl, by omega, HCC.out, ?_, X6.out.keep (drew_below _ _ _), B6.out.trans (drew_below _ _ _)⟩
          have h1 : r + 2 ^ (i + 1) = x + 2 ^ i := by rw [← HX.out, Nat.pow_succ]; omega
          rw [← h1]
          exact R2.out
        case measure => simp [intOf]
      · have hcv : cmpN (x * x) a = 1 := by
          unfold cmpN
          rw [if_neg (by omega), if_pos hc]
        have HCC := Lib.hid hc
        clear hc
        go_wp2_with (first
          | (go_at_call 99; refine (kless K6.out (H.out.keep (w' := w6) (by rw [hbase]; exact B6.out))).mono ?_; rintro e w7 ⟨rfl, n7, rfl⟩)
          | (go_at_call 100; refine (ktimes K5.out K5.out S3.out S3.out).mono ?_; rintro e w6 ⟨p6, rfl, k6, b6⟩; have K6 := Lib.hid k6; have X6 := Lib.hid (K5.out.keep b6); have BG6 := Lib.hid (BG5.out.keep b6); have B6 := Lib.hid (B5.out.trans (b6.mono (by have := B5.out.size; omega))); clear k6 b6)
          | (go_at_call 110; refine (kplus (BG4.out) K4.out S1.out S2.out).mono ?_; rintro e w5 ⟨p5, rfl, k5, b5⟩; rw [HX.out] at k5; have BG5 := Lib.hid (BG4.out.keep b5); have K5 := Lib.hid (k5.low (lo' := base) (by have := B4.out.size; omega)); have B5 := Lib.hid (B4.out.trans (b5.mono (by have := B4.out.size; omega))); clear k5 b5)
          | (go_at_call 94; refine (kup K3.out i (by omega) S4.out).mono ?_; rintro e w4 ⟨p4, rfl, k4, b4⟩; rw [E1.out] at k4; have K4 := Lib.hid k4; have BG4 := Lib.hid (BG3.out.keep b4); have B4 := Lib.hid (B3.out.trans (b4.mono (by have := B3.out.size; omega))); clear k4 b4)
          | (go_at_call 84; refine (kfrom (n := 1) (by decide) wr).mono ?_; rintro e w3 ⟨p3, rfl, k3, b3⟩; have K3 := Lib.hid k3; have BG3 := Lib.hid (BG.out.keep b3); have B3 := Lib.hid (BL.out.trans (b3.mono hbw)); clear k3 b3))
        go_roundw
        case rel =>
          refine ⟨r, i, (i : Int) - 1, rfl, rfl, by omega, R1.out, ?_, BG6.out.keep (drew_below _ _ _), B6.out.trans (drew_below _ _ _)⟩
          rw [HX.out]
          exact HCC.out
        case measure => simp [intOf]
end Go.Proofs.YtoodbdjmbicaeaaGreat
