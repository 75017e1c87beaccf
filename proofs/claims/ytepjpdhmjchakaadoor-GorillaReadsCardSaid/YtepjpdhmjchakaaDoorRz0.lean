/- ends: how many noughts a number begins and ends with, by the document's loops. -/
import Derived.Test.YtepjpdhmjchakaaDoorGzPlain
import Derived.Test.YtepjpdhmjchakaaDoorRefBits
namespace Go.Proofs.YtepjpdhmjchakaaDoor
open Go.RowKit
set_option linter.unusedVariables false

namespace Gz

theorem lz_bit (x j : Nat) (h0 : x ≠ 0) (h : x < 18446744073709551616) (hj : j < lz x) : x.testBit (63 - j) = false := by
  have h1 := lz_lt x h0 h
  have h2 := lz_le x
  exact Nat.testBit_lt_two_pow (Nat.lt_of_lt_of_le h1 (Nat.pow_le_pow_right (by decide) (by omega)))
theorem lz_end (x : Nat) (h0 : x ≠ 0) (h : x < 18446744073709551616) (hj : lz x < 31) : x.testBit (63 - lz x) = true := by
  have e : 63 - lz x = Nat.log2 x := by
    have : Nat.log2 x < 64 := (Nat.log2_lt h0).2 h
    unfold lz at hj ⊢
    omega
  rw [e]
  have h1 := Nat.log2_self_le h0
  have h2 : x < 2 ^ (Nat.log2 x + 1) := Nat.lt_log2_self
  rw [Nat.testBit_eq_decide_div_mod_eq, show x / 2 ^ x.log2 = 1 from Nat.div_eq_of_lt_le (by omega) (by rw [Nat.pow_succ] at h2; omega)]
  rfl
theorem tz_bit (x j : Nat) (h0 : x ≠ 0) (h : x < 18446744073709551616) (hj : j < tz x) : x.testBit j = false := by
  obtain ⟨m, hm, _⟩ := tz_spec x h0 h
  rw [hm, Nat.testBit_two_pow_mul]
  simp
  omega
theorem tz_end (x : Nat) (h0 : x ≠ 0) (h : x < 18446744073709551616) : x.testBit (tz x) = true := by
  obtain ⟨m, hm, _⟩ := tz_spec x h0 h
  have : ∀ t, (2 ^ t * (2 * m + 1)).testBit t = true := fun t => by
    rw [Nat.testBit_two_pow_mul]
    simp
  have h2 := this (tz x)
  rwa [← hm] at h2
/-- The step that an appender has. -/
theorem all_step {l : List Smp} {a b : Smp} : (Ap.all ((l ++ [a]) ++ [b])).step = (b.t - a.t).toNat := by
  rw [Ap.all_snoc, Ap.all_snoc]
  have h : ((Ap.all l).add a).n ≠ 0 := by unfold Ap.add; split <;> simp
  have ht : ((Ap.all l).add a).t = a.t := by unfold Ap.add; split <;> rfl
  generalize (Ap.all l).add a = c at *
  unfold Ap.add
  rw [if_neg h]
  simp [ht]
end Gz

theorem bit0_eq64 (v j : Nat) (hv : v < 18446744073709551616) : (bits .and .u64 ((v : Int) / 2 ^ j) 1 == 0) = !v.testBit j := by
  have h := bit_eq64 v j hv
  have e : ((v : Int) / 2 ^ j) = ((v / 2 ^ j : Nat) : Int) := by rw [Int.natCast_ediv, Int.natCast_pow]; rfl
  have h1 : v / 2 ^ j < 18446744073709551616 := Nat.lt_of_le_of_lt (Nat.div_le_self _ _) hv
  have e2 : bits .and .u64 ((v / 2 ^ j : Nat) : Int) 1 = (((v / 2 ^ j) &&& 1 : Nat) : Int) := bits_and_u64_nat _ 1 h1 (by omega)
  rw [e, e2, Nat.and_one_is_mod] at h ⊢
  rw [← h]
  have := Nat.mod_lt (v / 2 ^ j) (show 0 < 2 by omega)
  rcases (by omega : v / 2 ^ j % 2 = 0 ∨ v / 2 ^ j % 2 = 1) with h3 | h3 <;> rw [h3] <;> rfl

set_option maxRecDepth 100000 in
theorem xends_any (w : World) (x : Nat) (h0 : x ≠ 0) (hx : x < 18446744073709551616) :
    Calls Tryd.prog 87 #[.int .u64 (x : Int)] w fun e w' => e = .returned (.tuple #[.int .i64 (Gz.lz x : Int), .int .i64 (Gz.tz x : Int)]) ∧ w = w' := by
  have hl := Gz.lz_le x
  have hs := Gz.both_le x h0 hx
  go_enter Tryd.func87, Tryd.ntmps87
  go_wp2
  go_loopw [4] (fun l wr => ∃ k : Nat, k ≤ Gz.lz x ∧ l = .int .i64 k ∧ w = wr) (fun l _ => 31 - (intOf l).toNat)
  case atStart => exact ⟨0, Nat.zero_le _, rfl, rfl⟩
  case round =>
    obtain ⟨k, hk, rfl, hw⟩ := hrel
    subst hw
    by_cases h31 : k < 31
    · have e1 : IntKind.u64.wrap ((63 : Int) - k) = ((63 - k : Nat) : Int) := by rw [IntKind.wrap_u64]; omega
      have hbk := bit0_eq64 x (63 - k) hx
      by_cases hlt : k < Gz.lz x
      · rw [Gz.lz_bit x k h0 hx hlt] at hbk
        have hbk : (bits .and .u64 ((x : Int) / 2 ^ (63 - k)) 1 == 0) = true := hbk
        go_wp2
        exact ⟨⟨k + 1, by omega, by push_cast; rfl, trivial⟩, by simp [intOf]; omega⟩
      · obtain rfl : k = Gz.lz x := by omega
        rw [Gz.lz_end x h0 hx h31] at hbk
        have hbk : (bits .and .u64 ((x : Int) / 2 ^ (63 - Gz.lz x)) 1 == 0) = false := hbk
        go_wp2
        go_loopw [5] (fun e wr => ∃ j : Nat, j ≤ Gz.tz x ∧ e = .int .i64 j ∧ w = wr) (fun e _ => 64 - (intOf e).toNat)
        case atStart => exact ⟨0, Nat.zero_le _, rfl, rfl⟩
        case round =>
          obtain ⟨j, hj, rfl, hw⟩ := hrel
          subst hw
          by_cases hjt : j < Gz.tz x
          · have hbj := bit0_eq64 x j hx
            rw [Gz.tz_bit x j h0 hx hjt] at hbj
            have hbj : (bits .and .u64 ((x : Int) / 2 ^ j) 1 == 0) = true := hbj
            go_wp2
            exact ⟨⟨j + 1, by omega, by push_cast; rfl, trivial⟩, by simp [intOf]; omega⟩
          · obtain rfl : j = Gz.tz x := by omega
            have hbj := bit0_eq64 x (Gz.tz x) hx
            rw [Gz.tz_end x h0 hx] at hbj
            have hbj : (bits .and .u64 ((x : Int) / 2 ^ Gz.tz x) 1 == 0) = false := hbj
            go_wp2
            go_ret2
            exact ⟨rfl, rfl⟩
    · obtain rfl : k = Gz.lz x := by omega
      go_wp2
      go_loopw [5] (fun e wr => ∃ j : Nat, j ≤ Gz.tz x ∧ e = .int .i64 j ∧ w = wr) (fun e _ => 64 - (intOf e).toNat)
      case atStart => exact ⟨0, Nat.zero_le _, rfl, rfl⟩
      case round =>
        obtain ⟨j, hj, rfl, hw⟩ := hrel
        subst hw
        by_cases hjt : j < Gz.tz x
        · have hbj := bit0_eq64 x j hx
          rw [Gz.tz_bit x j h0 hx hjt] at hbj
          have hbj : (bits .and .u64 ((x : Int) / 2 ^ j) 1 == 0) = true := hbj
          go_wp2
          exact ⟨⟨j + 1, by omega, by push_cast; rfl, trivial⟩, by simp [intOf]; omega⟩
        · obtain rfl : j = Gz.tz x := by omega
          have hbj := bit0_eq64 x (Gz.tz x) hx
          rw [Gz.tz_end x h0 hx] at hbj
          have hbj : (bits .and .u64 ((x : Int) / 2 ^ Gz.tz x) 1 == 0) = false := hbj
          go_wp2
          go_ret2
          exact ⟨rfl, rfl⟩
end Go.Proofs.YtepjpdhmjchakaaDoor
