/- Rows of terms: the closures, and the loops that go through them. No condition. -/
import Derived.Test.YtoodbdjmbicaeaaGreatDoorCv1
import Derived.Deep.QuietTactic
import Derived.BigQuiet
namespace Go.Proofs.YtoodbdjmbicaeaaGreatDoor
open Go.RowKit
set_option maxRecDepth 8000
set_option maxHeartbeats 1000000
set_option linter.unusedVariables false
set_option linter.unusedSimpArgs false

/-- n terms, from i on, by d less each. -/
def rowZ (G : Nat → Int → Nat) (d : Int) : Nat → Int → Nat → Nat
  | 0, _, p => p
  | n + 1, i, p => rowZ G d n (i - d) (G p i)
theorem rowZ_lt {G : Nat → Int → Nat} (hG : ∀ p i, G p i < 2 ^ 64) (d : Int) : ∀ (n : Nat) (i : Int) (p : Nat), p < 2 ^ 64 → rowZ G d n i p < 2 ^ 64
  | 0, _, _, h => h
  | n + 1, i, p, _ => rowZ_lt hG d n _ _ (hG _ _)
/-- With numbers for the places. -/
def rowN (F : Nat → Nat → Nat) (d : Int) (n : Nat) (i : Int) (p : Nat) : Nat := rowZ (fun p i => F p (intW i)) d n i p
theorem rowN_lt {F : Nat → Nat → Nat} (hF : ∀ p i, F p i < 2 ^ 64) (d : Int) (n : Nat) (i : Int) (p : Nat) (h : p < 2 ^ 64) : rowN F d n i p < 2 ^ 64 := rowZ_lt (fun p i => hF p _) d n i p h
def expF (r p i : Nat) : Nat := dA 4607182418800017408 (dD (dM r p) i)
def lnF (s p i : Nat) : Nat := dA (dD 4607182418800017408 i) (dM s p)
def turF (s p i : Nat) : Nat := dS 4607182418800017408 (dD (dM s p) (dM i (dA i 4607182418800017408)))
def oddF (s p i : Nat) : Nat := dS (dD 4607182418800017408 i) (dM s p)

theorem kexpF (r : Nat) (p i : Nat) (W : World) (ad : Addr) (hc : W.cell? ad = some (wd r)) : Kn 63 #[wd p, wd i, .pointer (some ad)] W (wd (expF r p i)) := by
  go_enter Tryz.func63, Tryz.ntmps63
  go_wp2_with (first
    | (go_at_call 27; refine (kM _ _ _).mono ?_; rintro e wk ⟨rfl, nk, rfl⟩)
    | (go_at_call 13; refine (kD _ _ _).mono ?_; rintro e wk ⟨rfl, nk, rfl⟩)
    | (go_at_call 12; refine (kA _ _ _).mono ?_; rintro e wk ⟨rfl, nk, rfl⟩)
    | (go_at_call 44; refine (kS _ _ _).mono ?_; rintro e wk ⟨rfl, nk, rfl⟩))
  go_ret
  exact ⟨rfl, _, rfl⟩

theorem klnF (r : Nat) (p i : Nat) (W : World) (ad : Addr) (hc : W.cell? ad = some (wd r)) : Kn 66 #[wd p, wd i, .pointer (some ad)] W (wd (lnF r p i)) := by
  go_enter Tryz.func66, Tryz.ntmps66
  go_wp2_with fail
  go_quiet ((first
    | (go_at_call 27; exact Calls.quiet_of (kM _ _ _))
    | (go_at_call 13; exact Calls.quiet_of (kD _ _ _))
    | (go_at_call 12; exact Calls.quiet_of (kA _ _ _))
    | (go_at_call 44; exact Calls.quiet_of (kS _ _ _))))
  go_wp2_with fail
  go_ret
  exact ⟨rfl, _, rfl⟩

theorem koddF (r : Nat) (p i : Nat) (W : World) (ad : Addr) (hc : W.cell? ad = some (wd r)) : Kn 108 #[wd p, wd i, .pointer (some ad)] W (wd (oddF r p i)) := by
  go_enter Tryz.func108, Tryz.ntmps108
  go_wp2_with fail
  go_quiet ((first
    | (go_at_call 27; exact Calls.quiet_of (kM _ _ _))
    | (go_at_call 13; exact Calls.quiet_of (kD _ _ _))
    | (go_at_call 12; exact Calls.quiet_of (kA _ _ _))
    | (go_at_call 44; exact Calls.quiet_of (kS _ _ _))))
  go_wp2_with fail
  go_ret
  exact ⟨rfl, _, rfl⟩

theorem krowE (F : Nat → Nat → Nat) (p0 : Nat) (ad : Addr) (v : Value) (w : World) (hc : w.cell? ad = some v) (HF : Hid (∀ (p i : Nat) (W : World), W.cell? ad = some v → Kn 63 #[wd p, wd i, .pointer (some ad)] W (wd (F p i)))) :
    Kn 62 #[wd p0, .int .i64 13, .int .i64 1, .int .i64 1, .func (.func 63) #[] #[.pointer (some ad)]] w (wd (rowN F 1 13 13 p0)) := by
  have HC := Lib.hid hc
  obtain ⟨RR, hRR⟩ : ∃ RR, rowN F 1 13 13 p0 = RR := ⟨_, rfl⟩
  have HRR := Lib.hid hRR
  rw [hRR]
  clear hc hRR
  go_enter Tryz.func62, Tryz.ntmps62
  go_wp2_with fail
  go_loopw [0, 11] (fun x y wr => ∃ (k p : Nat) (z : Int), x = wd p ∧ y = .int .i64 z ∧ z = 13 - 1 * (k : Int) ∧ k ≤ 13 ∧ rowN F 1 (13 - k) z p = RR ∧ ∃ m, wr = w.drewN m) (fun _ y _ => ((intOf y) + 1).toNat)
  case atStart => exact ⟨0, p0, 13, rfl, rfl, by omega, by omega, HRR.out, 0, rfl⟩
  case round =>
    obtain ⟨k, p, z, rfl, rfl, hz, hk, hr, m, rfl⟩ := hrel
    by_cases hkn : k = 13
    · have hz2 : z < 1 ∧ -1000 ≤ z := by omega
      rw [hkn] at hr
      have hp : p = RR := hr
      subst hp
      clear hz hk hr hkn HRR
      go_wp2_with fail
      go_ret
      exact ⟨rfl, m, rfl⟩
    · have hz2 : 1 ≤ z ∧ z ≤ 13 := by omega
      obtain ⟨t, ht⟩ : ∃ t, 13 - k = t + 1 := ⟨13 - k - 1, by omega⟩
      rw [ht] at hr
      have HZ := Lib.hid hz
      have HT := Lib.hid ht
      have HK := Lib.hid hkn
      have HR := Lib.hid (show rowN F 1 t (z - 1) (F p (intW z)) = RR from hr)
      clear hz ht hr hkn
      go_wp2_with (first
        | (go_at_call 10; refine (kintW _ _).mono ?_; rintro e wz ⟨rfl, hw1⟩; have hw2 := hw1.symm; clear hw1; subst hw2)
        | (go_at_call 63; refine (HF.out _ _ _ (show (w.drewN m).cell? ad = some v from HC.out)).mono ?_; rintro e wk ⟨rfl, nk, hw1⟩; have hw2 := hw1.symm; clear hw1; subst hw2))
      go_roundw
      case rel =>
        refine ⟨k + 1, F p (intW z), z - 1, rfl, by go_num, by have := HZ.out; omega, by have := HK.out; omega, ?_, m + nk, rfl⟩
        have := HT.out
        rw [show 13 - (k + 1) = t by omega]
        exact HR.out
      case measure => simp [intOf]; omega

theorem krowL (F : Nat → Nat → Nat) (p0 : Nat) (ad : Addr) (v : Value) (w : World) (hc : w.cell? ad = some v) (HF : Hid (∀ (p i : Nat) (W : World), W.cell? ad = some v → Kn 66 #[wd p, wd i, .pointer (some ad)] W (wd (F p i)))) :
    Kn 62 #[wd p0, .int .i64 21, .int .i64 1, .int .i64 2, .func (.func 66) #[] #[.pointer (some ad)]] w (wd (rowN F 2 11 21 p0)) := by
  have HC := Lib.hid hc
  obtain ⟨RR, hRR⟩ : ∃ RR, rowN F 2 11 21 p0 = RR := ⟨_, rfl⟩
  have HRR := Lib.hid hRR
  rw [hRR]
  clear hc hRR
  go_enter Tryz.func62, Tryz.ntmps62
  go_wp2_with fail
  go_loopw [0, 11] (fun x y wr => ∃ (k p : Nat) (z : Int), x = wd p ∧ y = .int .i64 z ∧ z = 21 - 2 * (k : Int) ∧ k ≤ 11 ∧ rowN F 2 (11 - k) z p = RR ∧ ∃ m, wr = w.drewN m) (fun _ y _ => ((intOf y) + 2).toNat)
  case atStart => exact ⟨0, p0, 21, rfl, rfl, by omega, by omega, HRR.out, 0, rfl⟩
  case round =>
    obtain ⟨k, p, z, rfl, rfl, hz, hk, hr, m, rfl⟩ := hrel
    by_cases hkn : k = 11
    · have hz2 : z < 1 ∧ -1000 ≤ z := by omega
      rw [hkn] at hr
      have hp : p = RR := hr
      subst hp
      clear hz hk hr hkn HRR
      go_wp2_with fail
      go_ret
      exact ⟨rfl, m, rfl⟩
    · have hz2 : 1 ≤ z ∧ z ≤ 21 := by omega
      obtain ⟨t, ht⟩ : ∃ t, 11 - k = t + 1 := ⟨11 - k - 1, by omega⟩
      rw [ht] at hr
      have HZ := Lib.hid hz
      have HT := Lib.hid ht
      have HK := Lib.hid hkn
      have HR := Lib.hid (show rowN F 2 t (z - 2) (F p (intW z)) = RR from hr)
      clear hz ht hr hkn
      go_wp2_with (first
        | (go_at_call 10; refine (kintW _ _).mono ?_; rintro e wz ⟨rfl, hw1⟩; have hw2 := hw1.symm; clear hw1; subst hw2)
        | (go_at_call 66; refine (HF.out _ _ _ (show (w.drewN m).cell? ad = some v from HC.out)).mono ?_; rintro e wk ⟨rfl, nk, hw1⟩; have hw2 := hw1.symm; clear hw1; subst hw2))
      go_roundw
      case rel =>
        refine ⟨k + 1, F p (intW z), z - 2, rfl, by go_num, by have := HZ.out; omega, by have := HK.out; omega, ?_, m + nk, rfl⟩
        have := HT.out
        rw [show 11 - (k + 1) = t by omega]
        exact HR.out
      case measure => simp [intOf]; omega

theorem krowO (F : Nat → Nat → Nat) (p0 : Nat) (ad : Addr) (v : Value) (w : World) (hc : w.cell? ad = some v) (HF : Hid (∀ (p i : Nat) (W : World), W.cell? ad = some v → Kn 108 #[wd p, wd i, .pointer (some ad)] W (wd (F p i)))) :
    Kn 62 #[wd p0, .int .i64 45, .int .i64 1, .int .i64 2, .func (.func 108) #[] #[.pointer (some ad)]] w (wd (rowN F 2 23 45 p0)) := by
  have HC := Lib.hid hc
  obtain ⟨RR, hRR⟩ : ∃ RR, rowN F 2 23 45 p0 = RR := ⟨_, rfl⟩
  have HRR := Lib.hid hRR
  rw [hRR]
  clear hc hRR
  go_enter Tryz.func62, Tryz.ntmps62
  go_wp2_with fail
  go_loopw [0, 11] (fun x y wr => ∃ (k p : Nat) (z : Int), x = wd p ∧ y = .int .i64 z ∧ z = 45 - 2 * (k : Int) ∧ k ≤ 23 ∧ rowN F 2 (23 - k) z p = RR ∧ ∃ m, wr = w.drewN m) (fun _ y _ => ((intOf y) + 2).toNat)
  case atStart => exact ⟨0, p0, 45, rfl, rfl, by omega, by omega, HRR.out, 0, rfl⟩
  case round =>
    obtain ⟨k, p, z, rfl, rfl, hz, hk, hr, m, rfl⟩ := hrel
    by_cases hkn : k = 23
    · have hz2 : z < 1 ∧ -1000 ≤ z := by omega
      rw [hkn] at hr
      have hp : p = RR := hr
      subst hp
      clear hz hk hr hkn HRR
      go_wp2_with fail
      go_ret
      exact ⟨rfl, m, rfl⟩
    · have hz2 : 1 ≤ z ∧ z ≤ 45 := by omega
      obtain ⟨t, ht⟩ : ∃ t, 23 - k = t + 1 := ⟨23 - k - 1, by omega⟩
      rw [ht] at hr
      have HZ := Lib.hid hz
      have HT := Lib.hid ht
      have HK := Lib.hid hkn
      have HR := Lib.hid (show rowN F 2 t (z - 2) (F p (intW z)) = RR from hr)
      clear hz ht hr hkn
      go_wp2_with (first
        | (go_at_call 10; refine (kintW _ _).mono ?_; rintro e wz ⟨rfl, hw1⟩; have hw2 := hw1.symm; clear hw1; subst hw2)
        | (go_at_call 108; refine (HF.out _ _ _ (show (w.drewN m).cell? ad = some v from HC.out)).mono ?_; rintro e wk ⟨rfl, nk, hw1⟩; have hw2 := hw1.symm; clear hw1; subst hw2))
      go_roundw
      case rel =>
        refine ⟨k + 1, F p (intW z), z - 2, rfl, by go_num, by have := HZ.out; omega, by have := HK.out; omega, ?_, m + nk, rfl⟩
        have := HT.out
        rw [show 23 - (k + 1) = t by omega]
        exact HR.out
      case measure => simp [intOf]; omega

end Go.Proofs.YtoodbdjmbicaeaaGreatDoor
