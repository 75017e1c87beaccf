/- The program's bit reader: Bit and Signed; and the chapter's example. -/
import Derived.Test.YtepjpdhmjchakaaDoorReader2
import Derived.Test.YtepjpdhmjchakaaDoorVarPlain2
namespace Go.Proofs.YtepjpdhmjchakaaDoor
open Go.RowKit

theorem and1 (v : Nat) : bits .and .u64 (v : Int) 1 = ((v % 2 : Nat) : Int) := by
  show IntKind.u64.wrap ((BitVec.ofInt 64 (v : Int) &&& BitVec.ofInt 64 (1 : Int)).toNat : Int) = _
  have e3 : (BitVec.ofInt 64 (1 : Int)).toNat = 2 ^ 1 - 1 := by decide
  rw [BitVec.ofInt_natCast, BitVec.toNat_and, BitVec.toNat_ofNat, e3, Nat.and_two_pow_sub_one_eq_mod, Nat.mod_mod_of_dvd _ (by decide : 2 ^ 1 ∣ 2 ^ 64), IntWalk.u64_in _ (by have := Nat.mod_lt v (show 0 < 2 ^ 1 by omega); omega)]

/-- What a signed number was before it was put. -/
def un (x : Nat) : Int := if x % 2 = 0 then (x / 2 : Nat) else -((x / 2 : Nat) : Int) - 1
theorem un_zz (s : Int) : un (zz s) = s := by
  unfold un zz
  by_cases h : 0 ≤ s
  · rw [if_pos h, if_pos (by omega)]; omega
  · rw [if_neg h, if_neg (by omega)]; omega
theorem zz_un (x : Nat) : zz (un x) = x := by
  unfold un zz
  by_cases h : x % 2 = 0
  · rw [if_pos h, if_pos (by omega)]; omega
  · rw [if_neg h, if_neg (by omega)]; omega

theorem xor_ev (a : Nat) (h : a < 9223372036854775808) : bits .xor .i64 (a : Int) 0 = (a : Int) := by
  show IntKind.i64.wrap ((BitVec.ofInt 64 (a : Int) ^^^ BitVec.ofInt 64 (0 : Int)).toNat : Int) = _
  rw [BitVec.ofInt_natCast, show BitVec.ofInt 64 (0 : Int) = 0#64 from by decide, BitVec.xor_zero, BitVec.toNat_ofNat, Nat.mod_eq_of_lt (by omega)]
  rw [IntKind.wrap_i64]; omega
theorem xor_od (a : Nat) (h : a < 9223372036854775808) : bits .xor .i64 (a : Int) (-1) = -(a : Int) - 1 := by
  show IntKind.i64.wrap ((BitVec.ofInt 64 (a : Int) ^^^ BitVec.ofInt 64 (-1 : Int)).toNat : Int) = _
  rw [BitVec.ofInt_natCast, show BitVec.ofInt 64 (-1 : Int) = BitVec.allOnes 64 from by decide, BitVec.xor_allOnes, BitVec.toNat_not, BitVec.toNat_ofNat, Nat.mod_eq_of_lt (by omega)]
  unfold IntKind.wrap
  simp [IntKind.bits, IntKind.signed]
  omega

/-- What Signed comes to. -/
def RsPost (w : World) (B at_ lo hi : Nat) (v : Value) (l : List UInt8) : Nat ⊕ (Nat × Nat) → Ending → World → Prop
  | .inl er, e, w' => e = .returned (.tuple #[.int .i64 0, .int .u16 (er : Int)]) ∧ Rd w' B v at_ l lo hi ∧ Gro B none w w'
  | .inr (x, a'), e, w' => e = .returned (.tuple #[.int .i64 (un x), .int .u16 0]) ∧ Rd w' B v a' l lo hi ∧ Gro B none w w'

theorem rsigned_any (lo hi : Nat) (w : World) (B at_ : Nat) (v : Value) (l : List UInt8) (h : Rd w B v at_ l lo hi) (hhi : hi ≤ w.heap.size) :
    Calls Tryd.prog 91 #[.pointer (some ⟨B, 0, none⟩)] w (RsPost w B at_ lo hi v l (Bt.rv (Bt.unpack l) at_)) := by
  have HC := rvarint_any lo hi w B at_ v l h hhi
  clear h
  cases hr : Bt.rv (Bt.unpack l) at_ with
  | inl er =>
    rw [hr] at HC
    have HC := Lib.hid HC
    clear hr
    have q1 : bits .and .u64 0 1 = 0 := by decide
    have q2 : bits .xor .i64 0 0 = 0 := by decide
    go_enter Tryd.func91, Tryd.ntmps91
    go_wp2_with (go_at_call 93; refine Calls.mono (by exact HC.out) ?_; rintro e w1 ⟨rfl, hr1, hg1⟩)
    go_ret2
    exact ⟨rfl, hr1, hg1⟩
  | inr p =>
    obtain ⟨x, a'⟩ := p
    rw [hr] at HC
    have hx := (Bt.rv_ok hr).1
    have HC := Lib.hid HC
    clear hr
    have e1 := and1 x
    have e2 : x % 2 = 0 ∨ x % 2 = 1 := by omega
    have e3 : x / 2 < 9223372036854775808 := by omega
    rcases e2 with e2 | e2
    · have e5 : un x = ((x / 2 : Nat) : Int) := by unfold un; rw [if_pos e2]
      have e4 : bits .xor .i64 ((x : Int) / 2) 0 = un x := by rw [e5]; exact xor_ev (x / 2) e3
      clear e5
      rw [e2] at e1
      clear e2
      go_enter Tryd.func91, Tryd.ntmps91
      go_wp2_with (go_at_call 93; refine Calls.mono (by exact HC.out) ?_; rintro e w1 ⟨rfl, hr1, hg1⟩)
      go_ret2
      exact ⟨rfl, hr1, hg1⟩
    · have e5 : un x = -((x / 2 : Nat) : Int) - 1 := by unfold un; rw [if_neg (by omega)]
      have e4 : bits .xor .i64 ((x : Int) / 2) (-1) = un x := by rw [e5]; exact xor_od (x / 2) e3
      clear e5
      rw [e2] at e1
      clear e2
      go_enter Tryd.func91, Tryd.ntmps91
      go_wp2_with (go_at_call 93; refine Calls.mono (by exact HC.out) ?_; rintro e w1 ⟨rfl, hr1, hg1⟩)
      go_ret2
      exact ⟨rfl, hr1, hg1⟩
end Go.Proofs.YtepjpdhmjchakaaDoor
