/- The functions of package num, one by one: what each gives. No condition. -/
import Derived.Test.YtoodbdjmbicaeaaGreatDoorProg
import Derived.WalkKit
import Derived.WalkSpells
import Derived.WalkLawsBesides
import Derived.Laws.BitsAllLaws
import Derived.Laws.Externs
import Derived.Laws.Bits64
import Derived.Laws.NewFold
import Derived.Lib.Hide
import Derived.Test.YtoodbdjmbicaeaaGreatDoorP1
namespace Go.Proofs.YtoodbdjmbicaeaaGreatDoor
open Go.RowKit
set_option linter.unusedSimpArgs false

/-- Of a call: it gives that, and may draw. -/
abbrev Kn (f : Nat) (args : Array Value) (w : World) (v : Value) : Prop := Calls Tryz.prog f args w fun e w' => e = .returned v ∧ ∃ n, w' = w.drewN n
/-- It gives that, and draws nothing. -/
abbrev Kp (f : Nat) (args : Array Value) (w : World) (v : Value) : Prop := Calls Tryz.prog f args w fun e w' => e = .returned v ∧ w' = w
/-- A word as the walk's integer. -/
abbrev wd (a : Nat) : Value := .int .u64 (a : Int)

theorem ord_self (x : Nat) : (FloatKind.f64.format.order x x != some .eq) = nanW x := by
  show (Ieee.double.order x x != some .eq) = nanW x
  cases h : nanW x
  · rw [order_eq (nan_false h) (nan_false h)]
    have e : compare (ival x) (ival x) = .eq := by show compareOfLessAndEq _ _ = _; unfold compareOfLessAndEq; rw [if_neg (by omega), if_pos rfl]
    rw [e]; rfl
  · rw [order_nan (.inl (of_decide_eq_true h))]; rfl
theorem nan_cut (x y t : Nat) : nanW (Question.cut (.nanBits .f64 x y) t) = true := by
  refine decide_eq_true ?_
  show infR < rung ((t % 2) * 2 ^ 63 + 0x7ff0000000000000 + 1 + (t / 2) % (2 ^ 52 - 1))
  have hi := infR_eq
  have h2 := Nat.mod_lt (t / 2) (show 0 < 2 ^ 52 - 1 by decide)
  obtain ⟨m, hm⟩ : ∃ m, t / 2 % (2 ^ 52 - 1) = m := ⟨_, rfl⟩
  rw [hm] at h2 ⊢
  unfold rung
  have h3 : t % 2 = 0 ∨ t % 2 = 1 := by omega
  rcases h3 with h3 | h3 <;> rw [h3] <;> omega
/-- What + - * / on floats give. -/
theorem run_float (op : BinOp) (hop : op = .add ∨ op = .sub ∨ op = .mul ∨ op = .quo) (a b : Nat) (w : World) : ∃ r n, (∀ t, (binOp op t (.float .f64 a) (.float .f64 b)).run Tryz.prog w = .ok (.float .f64 r) (w.drewN n)) ∧ bitsW r = opt (floatBits op .f64 a b) := by
  cases h : floatBits op .f64 a b with
  | some r => exact ⟨r, 0, fun t => run_float_arith w op t .f64 a b r h, rfl⟩
  | none =>
    refine ⟨Question.cut (.nanBits .f64 a b) (w.tape w.drawn (.nanBits .f64 a b)), 1, fun t => ?_, ?_⟩
    · unfold floatBits at h
      rcases hop with rfl | rfl | rfl | rfl <;> simp only at h <;> simp [binOp, Op.floatArith, h, run_choose_drew, Question.forced] <;> rfl
    · unfold bitsW; rw [nan_cut]; rfl

/-- The functions that have no body here. -/
@[go_sem] theorem callFromBits (a : Nat) (w : World) : (callFunc 58 #[.int .u64 (a : Int)]).run Tryz.prog w = .ok (.value (.float .f64 a)) w := by
  rw [run_callFunc_extern Tryz.func58 (by kernel_rfl) (by kernel_rfl) (by kernel_rfl) (e := Extern.MathFloatBits.float64frombits) (by kernel_rfl)]
  rfl
@[go_sem] theorem callBits (a : Nat) (w : World) : (callFunc 89 #[.float .f64 a]).run Tryz.prog w = .ok (.value (.int .u64 (a : Int))) w := by
  rw [run_callFunc_extern Tryz.func89 (by kernel_rfl) (by kernel_rfl) (by kernel_rfl) (e := Extern.MathFloatBits.float64bits) (by kernel_rfl)]
  rfl
theorem call_sqrt (a : Nat) (w : World) : ∃ r n, (callFunc 90 #[.float .f64 a]).run Tryz.prog w = .ok (.value (.float .f64 r)) (w.drewN n) ∧ bitsW r = opt (Ieee.double.sqrt a) := by
  rw [run_callFunc_extern Tryz.func90 (by kernel_rfl) (by kernel_rfl) (by kernel_rfl) (e := Extern.MathSqrt.sqrt) (by kernel_rfl)]
  have hu : Extern.MathSqrt.sqrt #[.float .f64 a] = (match Ieee.double.sqrt a with | some r => pure (.float .f64 r) | none => do pure (.float .f64 (← choose (.nanBits .f64 a a)))) := rfl
  rw [hu]
  cases h : Ieee.double.sqrt a with
  | some r => exact ⟨r, 0, rfl, rfl⟩
  | none =>
    refine ⟨Question.cut (.nanBits .f64 a a) (w.tape w.drawn (.nanBits .f64 a a)), 1, ?_, ?_⟩
    · simp [run_choose_drew, Question.forced]; rfl
    · unfold bitsW; rw [nan_cut]; rfl

theorem toNat_of (a : Nat) (h : a < 2 ^ 64) : (BitVec.ofInt 64 (a : Int)).toNat = a := by
  rw [BitVec.ofInt_natCast, BitVec.toNat_ofNat]
  omega
theorem toNat_sign : (BitVec.ofInt 64 (9223372036854775808 : Int)).toNat = 2 ^ 63 := by decide
theorem wrap_u64 {n : Nat} (h : n < 2 ^ 64) : IntKind.u64.wrap (n : Int) = (n : Int) := by rw [IntKind.wrap_u64]; omega
theorem xor_pow {a : Nat} (h : a < 2 ^ 63) : a ^^^ 2 ^ 63 = 2 ^ 63 + a := by
  apply Nat.eq_of_testBit_eq
  intro i
  rw [Nat.testBit_xor, Nat.testBit_two_pow]
  rcases Nat.lt_trichotomy i 63 with hi | hi | hi
  · rw [Nat.testBit_two_pow_add_gt hi, decide_eq_false (by omega), Bool.xor_false]
  · subst hi
    rw [Nat.testBit_two_pow_add_eq, decide_eq_true rfl, Bool.xor_true]
  · have h1 : a < 2 ^ i := Nat.lt_of_lt_of_le h (Nat.pow_le_pow_right (by decide) (by omega))
    have h2 : 2 ^ 63 + a < 2 ^ i := Nat.lt_of_lt_of_le (show 2 ^ 63 + a < 2 ^ 64 by omega) (Nat.pow_le_pow_right (by decide) (by omega))
    rw [Nat.testBit_lt_two_pow h1, Nat.testBit_lt_two_pow h2, decide_eq_false (by omega)]; rfl
theorem xor_flip {a : Nat} (h : a < 2 ^ 64) : a ^^^ 2 ^ 63 = flip a := by
  unfold flip
  by_cases h1 : a < 2 ^ 63
  · rw [if_pos h1, xor_pow h1]; omega
  · rw [if_neg h1]
    have h2 := xor_pow (a := a - 2 ^ 63) (by omega)
    have e : 2 ^ 63 + (a - 2 ^ 63) = a := by omega
    rw [e] at h2
    have h3 : (a - 2 ^ 63) ^^^ 2 ^ 63 ^^^ 2 ^ 63 = a ^^^ 2 ^ 63 := by rw [h2]
    rw [Nat.xor_assoc, Nat.xor_self, Nat.xor_zero] at h3
    exact h3.symm
theorem xorSign {a : Nat} (h : a < 2 ^ 64) : bits .xor .u64 (a : Int) 9223372036854775808 = ((flip a : Nat) : Int) := by
  show IntKind.u64.wrap ((BitVec.ofInt 64 (a : Int) ^^^ BitVec.ofInt 64 9223372036854775808).toNat : Int) = _
  rw [BitVec.toNat_xor, toNat_of a h, toNat_sign, xor_flip h, wrap_u64 (flip_lt h)]
theorem and_pow (a : Nat) : a &&& 2 ^ 63 = if isNeg a then 2 ^ 63 else 0 := by
  apply Nat.eq_of_testBit_eq
  intro i
  have e : a.testBit 63 = isNeg a := by rw [Nat.testBit_eq_decide_div_mod_eq]; rfl
  rw [Nat.testBit_and, Nat.testBit_two_pow]
  by_cases hi : 63 = i
  · subst hi
    rw [e, decide_eq_true rfl, Bool.and_true]
    cases isNeg a
    · simp
    · rw [if_pos rfl, Nat.testBit_two_pow, decide_eq_true rfl]
  · rw [decide_eq_false hi, Bool.and_false]
    split
    · rw [Nat.testBit_two_pow, decide_eq_false hi]
    · rw [Nat.zero_testBit]
theorem andSign {a : Nat} (h : a < 2 ^ 64) : bits .and .u64 (a : Int) 9223372036854775808 = if isNeg a then 9223372036854775808 else 0 := by
  show IntKind.u64.wrap ((BitVec.ofInt 64 (a : Int) &&& BitVec.ofInt 64 9223372036854775808).toNat : Int) = _
  rw [BitVec.toNat_and, toNat_of a h, toNat_sign, and_pow]
  cases isNeg a <;> decide
theorem andNotSign {a : Nat} (h : a < 2 ^ 64) : bits .andNot .u64 (a : Int) 9223372036854775808 = ((a % 2 ^ 63 : Nat) : Int) := by
  show IntKind.u64.wrap ((BitVec.ofInt 64 (a : Int) &&& ~~~(BitVec.ofInt 64 9223372036854775808)).toNat : Int) = _
  rw [BitVec.toNat_and, toNat_of a h, BitVec.toNat_not, toNat_sign, show 2 ^ 64 - 1 - 2 ^ 63 = 2 ^ 63 - 1 by decide, Nat.and_two_pow_sub_one_eq_mod]
  exact wrap_u64 (by omega)
theorem notW {a : Nat} (h : a < 2 ^ 64) : bits .xor .u64 IntKind.u64.max (a : Int) = ((2 ^ 64 - 1 - a : Nat) : Int) := by
  show IntKind.u64.wrap ((BitVec.ofInt 64 (IntKind.u64.max) ^^^ BitVec.ofInt 64 (a : Int)).toNat : Int) = _
  rw [show BitVec.ofInt 64 IntKind.u64.max = BitVec.allOnes 64 by decide, BitVec.allOnes_xor, BitVec.toNat_not, toNat_of a h]
  exact wrap_u64 (by omega)

theorem kof (a : Nat) (w : World) : Kp 19 #[wd a] w (.float .f64 a) := by
  go_enter Tryz.func19, Tryz.ntmps19
  go_wp2
  go_ret
  exact ⟨rfl, rfl⟩
theorem kbits (x : Nat) (w : World) : Kp 53 #[.float .f64 x] w (wd (bitsW x)) := by
  have h := ord_self x
  unfold bitsW
  cases hn : nanW x
  all_goals
    rw [hn] at h
    go_enter Tryz.func53, Tryz.ntmps53
    go_wp2
    go_ret
    exact ⟨rfl, rfl⟩
theorem kint (n : Int) (w : World) : Kp 10 #[.int .i64 n] w (wd (bitsW (floatOfInt .f64 n))) := by
  go_enter Tryz.func10, Tryz.ntmps10
  go_wp2_with (go_at_call 53; refine (kbits _ _).mono ?_; rintro e w1 ⟨rfl, rfl⟩)
  go_ret
  exact ⟨rfl, rfl⟩
theorem kmnan (a : Nat) (w : World) : Kp 55 #[.float .f64 a] w (.bool (nanW a)) := by
  have h := ord_self a
  go_enter Tryz.func55, Tryz.ntmps55
  go_wp2
  go_ret
  exact ⟨rfl, rfl⟩
theorem kisnan (a : Nat) (w : World) : Kp 16 #[wd a] w (.bool (nanW a)) := by
  go_enter Tryz.func16, Tryz.ntmps16
  go_wp2_with (first
    | (go_at_call 55; refine (kmnan _ _).mono ?_; rintro e w1 ⟨rfl, rfl⟩)
    | (go_at_call 19; refine (kof _ _).mono ?_; rintro e w1 ⟨rfl, rfl⟩))
  go_ret
  exact ⟨rfl, rfl⟩
theorem kcmp (a b : Nat) (w : World) : Kp 11 #[wd a, wd b] w (.tuple #[.int .i64 (cmpC a b), .bool (cmpK a b)]) := by
  unfold cmpC cmpK
  cases h : Ieee.double.order a b with
  | none =>
    have h' : FloatKind.f64.format.order a b = none := h
    go_enter Tryz.func11, Tryz.ntmps11
    go_wp2_with (go_at_call 19; refine (kof _ _).mono ?_; rintro e w1 ⟨rfl, rfl⟩)
    go_ret2
    exact ⟨rfl, rfl⟩
  | some o =>
    cases o
    · have h' : FloatKind.f64.format.order a b = some .lt := h
      go_enter Tryz.func11, Tryz.ntmps11
      go_wp2_with (go_at_call 19; refine (kof _ _).mono ?_; rintro e w1 ⟨rfl, rfl⟩)
      go_ret2
      exact ⟨rfl, rfl⟩
    · have h' : FloatKind.f64.format.order a b = some .eq := h
      go_enter Tryz.func11, Tryz.ntmps11
      go_wp2_with (go_at_call 19; refine (kof _ _).mono ?_; rintro e w1 ⟨rfl, rfl⟩)
      go_ret2
      exact ⟨rfl, rfl⟩
    · have h' : FloatKind.f64.format.order a b = some .gt := h
      go_enter Tryz.func11, Tryz.ntmps11
      go_wp2_with (go_at_call 19; refine (kof _ _).mono ?_; rintro e w1 ⟨rfl, rfl⟩)
      go_ret2
      exact ⟨rfl, rfl⟩
theorem knegative {a : Nat} (ha : a < 2 ^ 64) (w : World) : Kp 24 #[wd a] w (.bool (isNeg a)) := by
  have h := andSign ha
  cases hn : isNeg a
  all_goals
    rw [hn] at h
    go_enter Tryz.func24, Tryz.ntmps24
    go_wp2
    go_ret
    exact ⟨rfl, rfl⟩
theorem kneg {a : Nat} (ha : a < 2 ^ 64) (w : World) : Kp 83 #[wd a] w (wd (negV a)) := by
  have h := xorSign ha
  go_enter Tryz.func83, Tryz.ntmps83
  go_wp2_with (first
    | (go_at_call 53; refine (kbits _ _).mono ?_; rintro e w1 ⟨rfl, rfl⟩)
    | (go_at_call 19; refine (kof _ _).mono ?_; rintro e w1 ⟨rfl, rfl⟩))
  go_ret
  exact ⟨rfl, rfl⟩
theorem kabs {a : Nat} (ha : a < 2 ^ 64) (w : World) : Kp 20 #[wd a] w (wd (absV a)) := by
  have h := andNotSign ha
  go_enter Tryz.func20, Tryz.ntmps20
  go_wp2_with (first
    | (go_at_call 53; refine (kbits _ _).mono ?_; rintro e w1 ⟨rfl, rfl⟩)
    | (go_at_call 19; refine (kof _ _).mono ?_; rintro e w1 ⟨rfl, rfl⟩))
  go_ret
  exact ⟨rfl, rfl⟩
theorem kadd (a b : Nat) (w : World) : Kn 12 #[wd a, wd b] w (wd (opt (Ieee.double.add a b))) := by
  obtain ⟨r, n, h, hr⟩ := run_float .add (.inl rfl) a b w
  go_enter Tryz.func12, Tryz.ntmps12
  go_wp2_with (first
    | (go_at_call 53; refine (kbits _ _).mono ?_; rintro e w1 ⟨rfl, rfl⟩)
    | (go_at_call 19; refine (kof _ _).mono ?_; rintro e w1 ⟨rfl, rfl⟩))
  go_ret
  exact ⟨rfl, n, rfl⟩
theorem ksub (a b : Nat) (w : World) : Kn 44 #[wd a, wd b] w (wd (opt (Ieee.double.sub a b))) := by
  obtain ⟨r, n, h, hr⟩ := run_float .sub (.inr (.inl rfl)) a b w
  go_enter Tryz.func44, Tryz.ntmps44
  go_wp2_with (first
    | (go_at_call 53; refine (kbits _ _).mono ?_; rintro e w1 ⟨rfl, rfl⟩)
    | (go_at_call 19; refine (kof _ _).mono ?_; rintro e w1 ⟨rfl, rfl⟩))
  go_ret
  exact ⟨rfl, n, rfl⟩
theorem kmul (a b : Nat) (w : World) : Kn 27 #[wd a, wd b] w (wd (opt (Ieee.double.mul a b))) := by
  obtain ⟨r, n, h, hr⟩ := run_float .mul (.inr (.inr (.inl rfl))) a b w
  go_enter Tryz.func27, Tryz.ntmps27
  go_wp2_with (first
    | (go_at_call 53; refine (kbits _ _).mono ?_; rintro e w1 ⟨rfl, rfl⟩)
    | (go_at_call 19; refine (kof _ _).mono ?_; rintro e w1 ⟨rfl, rfl⟩))
  go_ret
  exact ⟨rfl, n, rfl⟩
theorem kdiv (a b : Nat) (w : World) : Kn 13 #[wd a, wd b] w (wd (opt (Ieee.double.div a b))) := by
  obtain ⟨r, n, h, hr⟩ := run_float .quo (.inr (.inr (.inr rfl))) a b w
  go_enter Tryz.func13, Tryz.ntmps13
  go_wp2_with (first
    | (go_at_call 53; refine (kbits _ _).mono ?_; rintro e w1 ⟨rfl, rfl⟩)
    | (go_at_call 19; refine (kof _ _).mono ?_; rintro e w1 ⟨rfl, rfl⟩))
  go_ret
  exact ⟨rfl, n, rfl⟩
end Go.Proofs.YtoodbdjmbicaeaaGreatDoor
