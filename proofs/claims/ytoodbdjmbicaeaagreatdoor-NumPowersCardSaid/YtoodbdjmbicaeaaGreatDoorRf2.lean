/- The document's small questions of a number; a number opened; two on one place. No condition. -/
import Derived.Test.YtoodbdjmbicaeaaGreatDoorWho
import Derived.Test.YtoodbdjmbicaeaaGreatDoorP2
namespace Go.Proofs.YtoodbdjmbicaeaaGreatDoor
open Go.RowKit
set_option maxRecDepth 8000
set_option maxHeartbeats 1000000
set_option linter.unusedVariables false
set_option linter.unusedSimpArgs false

theorem andNot' {a : Nat} (ha : a < 2 ^ 64) : bits .andNot .u64 (a : Int) 9223372036854775808 = ((rung a : Nat) : Int) := andNotSign ha
theorem krNaN {a : Nat} (ha : a < 2 ^ 64) (w : World) : Kp 30 #[wd a] w (.bool (nanW a)) := by
  have h := andNot' ha
  obtain ⟨z, hz⟩ : ∃ z : Int, ((rung a : Nat) : Int) = z := ⟨_, rfl⟩
  have hi := infR_eq
  have hn : nanW a = decide ((9218868437227405312 : Int) < z) := by
    unfold nanW
    by_cases h : infR < rung a
    · rw [decide_eq_true h, decide_eq_true (by omega)]
    · rw [decide_eq_false h, decide_eq_false (by omega)]
  rw [hn]
  rw [hz] at h
  clear hn hi hz
  go_enter Tryz.func30, Tryz.ntmps30
  go_wp2
  go_ret
  exact ⟨rfl, rfl⟩
theorem krInfQ {a : Nat} (ha : a < 2 ^ 64) (w : World) : Kp 31 #[wd a] w (.bool (isInfW a)) := by
  have h := andNot' ha
  obtain ⟨z, hz⟩ : ∃ z : Int, ((rung a : Nat) : Int) = z := ⟨_, rfl⟩
  have hi := infR_eq
  have hn : isInfW a = (z == (9218868437227405312 : Int)) := by
    unfold isInfW
    by_cases h : rung a = infR
    · rw [show (rung a == infR) = true by simpa using h, show (z == 9218868437227405312) = true by simp; omega]
    · rw [show (rung a == infR) = false by simpa using h, show (z == 9218868437227405312) = false by simp; omega]
  rw [hn]
  rw [hz] at h
  clear hn hi hz
  go_enter Tryz.func31, Tryz.ntmps31
  go_wp2
  go_ret
  exact ⟨rfl, rfl⟩
def zeroW (a : Nat) : Bool := rung a == 0
theorem krNought {a : Nat} (ha : a < 2 ^ 64) (w : World) : Kp 29 #[wd a] w (.bool (zeroW a)) := by
  have h := andNot' ha
  obtain ⟨z, hz⟩ : ∃ z : Int, ((rung a : Nat) : Int) = z := ⟨_, rfl⟩
  have hn : zeroW a = (z == 0) := by
    unfold zeroW
    by_cases h : rung a = 0
    · rw [show (rung a == 0) = true by simpa using h, show (z == 0) = true by simp; omega]
    · rw [show (rung a == 0) = false by simpa using h, show (z == 0) = false by simp; omega]
  rw [hn]
  rw [hz] at h
  clear hn hz
  go_enter Tryz.func29, Tryz.ntmps29
  go_wp2
  go_ret
  exact ⟨rfl, rfl⟩
theorem krNeg0 {a : Nat} (ha : a < 2 ^ 64) (w : World) : Kp 37 #[wd a] w (.bool (isNeg a)) := by
  have h := andSign ha
  cases hn : isNeg a
  all_goals
    rw [hn] at h
    go_enter Tryz.func37, Tryz.ntmps37
    go_wp2
    go_ret
    exact ⟨rfl, rfl⟩
theorem krNaNs (w : World) : Kp 30 #[wd theNaN] w (.bool true) := krNaN theNaN_lt w

theorem and_low (x k : Nat) (hx : x < 2 ^ 64) (hk : 2 ^ k - 1 < 2 ^ 63) : bits .and .u64 (x : Int) (((2 ^ k - 1 : Nat) : Nat) : Int) = ((x % 2 ^ k : Nat) : Int) := by
  show IntKind.u64.wrap ((BitVec.ofInt 64 (x : Int) &&& BitVec.ofInt 64 ((2 ^ k - 1 : Nat) : Int)).toNat : Int) = _
  rw [BitVec.toNat_and, toNat_of x hx, toNat_of _ (by omega), Nat.and_two_pow_sub_one_eq_mod]
  exact wrap_u64 (Nat.lt_of_le_of_lt (Nat.mod_le _ _) hx)
/-- A number opened. -/
theorem kropen {a : Nat} (ha : a < 2 ^ 64) (w : World) : Kp 76 #[wd a] w (.tuple #[wd (mg (rung a)), .int .i64 (-1074 + (pl (rung a) : Int))]) := by
  obtain ⟨A, hA⟩ : ∃ A, a / 2 ^ 52 = A := ⟨_, rfl⟩
  have hAl : A < 4096 := by omega
  obtain ⟨f, hf⟩ : ∃ f, a % 2 ^ 52 = f := ⟨_, rfl⟩
  obtain ⟨E, hE⟩ : ∃ E, A % 2048 = E := ⟨_, rfl⟩
  have h1 : (a : Int) / 4503599627370496 = (A : Int) := by omega
  have h2 : bits .and .u64 (A : Int) 2047 = (E : Int) := by
    have := and_low A 11 (by omega) (by decide)
    rw [show A % 2 ^ 11 = E from hE] at this
    exact this
  have h3 : bits .and .u64 (a : Int) 4503599627370495 = (f : Int) := by
    have := and_low a 52 ha (by decide)
    rw [hf] at this
    exact this
  have hr1 : rung a / 2 ^ 52 = E := by unfold rung; omega
  have hr2 : rung a % 2 ^ 52 = f := by unfold rung; omega
  have hEl : E < 2048 := by omega
  have hfl : f < 2 ^ 52 := by omega
  by_cases h0 : E = 0
  · have e1 : mg (rung a) = f := by unfold mg; rw [if_pos (by omega)]; omega
    have e2 : pl (rung a) = 0 := by unfold pl; omega
    rw [e1, e2]
    subst h0
    clear hA hf hE hr1 hr2 e1 e2
    go_enter Tryz.func76, Tryz.ntmps76
    go_wp2
    go_ret2
    exact ⟨rfl, rfl⟩
  · obtain ⟨m, hm⟩ : ∃ m, 2 ^ 52 + f = m := ⟨_, rfl⟩
    have e1 : mg (rung a) = m := by unfold mg; rw [if_neg (by omega)]; omega
    have e2 : pl (rung a) = E - 1 := by unfold pl; omega
    have h4 : bits .or .u64 4503599627370496 (f : Int) = (m : Int) := by
      have h5 := or64 (a := 4503599627370496) (b := f) (by decide) (by omega)
      have h6 := Nat.two_pow_add_eq_or_of_lt hfl 1
      rw [show (4503599627370496 : Nat) = 2 ^ 52 * 1 by decide, ← h6] at h5
      have h7 : ((2 ^ 52 * 1 : Nat) : Int) = 4503599627370496 := by decide
      rw [h7] at h5
      rw [h5]
      omega
    have e3 : (-1074 + ((E - 1 : Nat) : Int)) = (E : Int) - 1075 := by omega
    have h0' : ((E : Int) == 0) = false := by simpa using h0
    rw [e1, e2, e3]
    clear hA hf hE hr1 hr2 e1 e2 e3 h0 hm
    go_enter Tryz.func76, Tryz.ntmps76
    go_wp2
    go_ret2
    exact ⟨rfl, rfl⟩
end Go.Proofs.YtoodbdjmbicaeaaGreatDoor
