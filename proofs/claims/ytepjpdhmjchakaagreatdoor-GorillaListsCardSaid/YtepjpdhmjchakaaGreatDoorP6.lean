import Derived.Test.YtepjpdhmjchakaaGreatDoorP5
/- How many noughts a number begins with, how many it ends with. Condition of the second: the library's table of trailing noughts as its initialiser lays it (TabW). -/
namespace Go.Proofs.YtepjpdhmjchakaaGreatDoor
open Go.RowKit
set_option linter.unusedVariables false

/-- The table of lengths. -/
def tab8 : ByteArray := ⟨#[0, 1, 2, 2, 3, 3, 3, 3, 4, 4, 4, 4, 4, 4, 4, 4, 5, 5, 5, 5, 5, 5, 5, 5, 5, 5, 5, 5, 5, 5, 5, 5, 6, 6, 6, 6, 6, 6, 6, 6, 6, 6, 6, 6, 6, 6, 6, 6, 6, 6, 6, 6, 6, 6, 6, 6, 6, 6, 6, 6, 6, 6, 6, 6, 7, 7, 7, 7, 7, 7, 7, 7, 7, 7, 7, 7, 7, 7, 7, 7, 7, 7, 7, 7, 7, 7, 7, 7, 7, 7, 7, 7, 7, 7, 7, 7, 7, 7, 7, 7, 7, 7, 7, 7, 7, 7, 7, 7, 7, 7, 7, 7, 7, 7, 7, 7, 7, 7, 7, 7, 7, 7, 7, 7, 7, 7, 7, 7, 8, 8, 8, 8, 8, 8, 8, 8, 8, 8, 8, 8, 8, 8, 8, 8, 8, 8, 8, 8, 8, 8, 8, 8, 8, 8, 8, 8, 8, 8, 8, 8, 8, 8, 8, 8, 8, 8, 8, 8, 8, 8, 8, 8, 8, 8, 8, 8, 8, 8, 8, 8, 8, 8, 8, 8, 8, 8, 8, 8, 8, 8, 8, 8, 8, 8, 8, 8, 8, 8, 8, 8, 8, 8, 8, 8, 8, 8, 8, 8, 8, 8, 8, 8, 8, 8, 8, 8, 8, 8, 8, 8, 8, 8, 8, 8, 8, 8, 8, 8, 8, 8, 8, 8, 8, 8, 8, 8, 8, 8, 8, 8, 8, 8, 8, 8, 8, 8, 8, 8, 8, 8, 8, 8, 8, 8, 8, 8]⟩
set_option maxRecDepth 100000 in
theorem tab8_at : ∀ x : Fin 256, 0 < x.val → ((tab8[x.val]'x.isLt).toNat) = Nat.log2 x.val + 1 := by decide +kernel
theorem fin_len (n0 L X T : Nat) (h : T = L + 1) (hL : L < 8) (hn : n0 ≤ 56) (hX : X = L + n0) : wrap64 ((n0 : Int) + wrap64 (T : Int)) = ((X + 1 : Nat) : Int) := by
  subst h hX
  unfold wrap64
  omega
theorem log2_shift (x y k : Nat) (h : y = x / 2 ^ k) (hy : 0 < y) : Nat.log2 x = Nat.log2 y + k := by
  have h1 : 2 ^ Nat.log2 y ≤ y := Nat.log2_self_le (by omega)
  have h2 : y < 2 ^ (Nat.log2 y + 1) := Nat.lt_log2_self
  have hx : 0 < x := by
    rcases Nat.eq_zero_or_pos x with e | e
    · subst e; simp at h; omega
    · exact e
  have h3 : 2 ^ (Nat.log2 y + k) ≤ x := by
    rw [Nat.pow_add]
    calc 2 ^ Nat.log2 y * 2 ^ k ≤ y * 2 ^ k := Nat.mul_le_mul_right _ h1
      _ ≤ x := by rw [h]; exact Nat.div_mul_le_self _ _
  have h4 : x < 2 ^ (Nat.log2 y + k + 1) := by
    rw [show Nat.log2 y + k + 1 = Nat.log2 y + 1 + k by omega, Nat.pow_add]
    rw [h] at h2
    rw [← h] at h2
    exact (Nat.div_lt_iff_lt_mul (Nat.two_pow_pos k)).1 (h ▸ h2)
  exact (Nat.log2_eq_iff (by omega)).2 ⟨h3, h4⟩
set_option maxRecDepth 100000 in
theorem len_000 (x : Nat) (h0 : 0 < x) (hx : x < 18446744073709551616) (c0 : x < 4294967296) (c1 : x < 65536) (c2 : x < 256) (w : World) : Calls Tryz.prog 102 #[.int .u64 (x : Int)] w fun e w' => e = .returned (.int .i64 ((Nat.log2 x + 1 : Nat) : Int)) ∧ w = w' := by
  have g0 : decide (4294967296 ≤ (x : Int)) = false := decide_eq_false (by omega)
  have g1 : decide (65536 ≤ (x : Int)) = false := decide_eq_false (by omega)
  have g2 : decide (256 ≤ (x : Int)) = false := decide_eq_false (by omega)
  have hy : x < 256 := by omega
  have hp : 0 < x := by omega
  have e0 := tab8_at ⟨x, hy⟩ hp
  have hle : Nat.log2 x < 8 := (Nat.log2_lt (by omega)).2 (by simpa using hy)
  have e1 : Nat.log2 x = Nat.log2 x + 0 := rfl
  have e2 := fin_len 0 (Nat.log2 x) (Nat.log2 x) _ e0 hle (by decide) e1
  rw [show ((0 : Nat) : Int) = 0 from rfl, Int.zero_add] at e2
  have HE := Lib.hid e2
  clear e0 e1 e2 hle
  go_enter Tryz.func102, Tryz.ntmps102
  go_wp2
  go_ret
  refine ⟨?_, rfl⟩
  exact congrArg (fun z => Ending.returned (.int .i64 z)) HE.out

set_option maxRecDepth 100000 in
theorem len_001 (x : Nat) (h0 : 0 < x) (hx : x < 18446744073709551616) (c0 : x < 4294967296) (c1 : x < 65536) (c2 : 256 ≤ x) (w : World) : Calls Tryz.prog 102 #[.int .u64 (x : Int)] w fun e w' => e = .returned (.int .i64 ((Nat.log2 x + 1 : Nat) : Int)) ∧ w = w' := by
  have g0 : decide (4294967296 ≤ (x : Int)) = false := decide_eq_false (by omega)
  have g1 : decide (65536 ≤ (x : Int)) = false := decide_eq_false (by omega)
  have g2 : decide (256 ≤ (x : Int)) = true := decide_eq_true (by omega)
  obtain ⟨y2, hy2⟩ : ∃ y2 : Nat, y2 = x / 256 := ⟨_, rfl⟩
  have q2 : (x : Int) / 256 = (y2 : Int) := by omega
  have b2 : y2 < 256 := by omega
  have p2 : 0 < y2 := by omega
  have hy : y2 < 256 := by omega
  have hp : 0 < y2 := by omega
  have ly2 := log2_shift x y2 8 (by simpa using hy2) p2
  have e0 := tab8_at ⟨y2, hy⟩ hp
  have hle : Nat.log2 y2 < 8 := (Nat.log2_lt (by omega)).2 (by simpa using hy)
  have e1 : Nat.log2 x = Nat.log2 y2 + 8 := by rw [ly2]
  have e2 := fin_len 8 (Nat.log2 y2) (Nat.log2 x) _ e0 hle (by decide) e1
  have HE := Lib.hid e2
  clear e0 e1 e2 hle ly2 hy2
  clear c0 c1 c2
  go_enter Tryz.func102, Tryz.ntmps102
  go_wp2
  go_ret
  refine ⟨?_, rfl⟩
  exact congrArg (fun z => Ending.returned (.int .i64 z)) HE.out

set_option maxRecDepth 100000 in
theorem len_010 (x : Nat) (h0 : 0 < x) (hx : x < 18446744073709551616) (c0 : x < 4294967296) (c1 : 65536 ≤ x) (c2 : (x / 65536) < 256) (w : World) : Calls Tryz.prog 102 #[.int .u64 (x : Int)] w fun e w' => e = .returned (.int .i64 ((Nat.log2 x + 1 : Nat) : Int)) ∧ w = w' := by
  have g0 : decide (4294967296 ≤ (x : Int)) = false := decide_eq_false (by omega)
  have g1 : decide (65536 ≤ (x : Int)) = true := decide_eq_true (by omega)
  obtain ⟨y1, hy1⟩ : ∃ y1 : Nat, y1 = x / 65536 := ⟨_, rfl⟩
  have q1 : (x : Int) / 65536 = (y1 : Int) := by omega
  rw [← hy1] at c2
  have b1 : y1 < 65536 := by omega
  have p1 : 0 < y1 := by omega
  have g2 : decide (256 ≤ (y1 : Int)) = false := decide_eq_false (by omega)
  have hy : y1 < 256 := by omega
  have hp : 0 < y1 := by omega
  have ly1 := log2_shift x y1 16 (by simpa using hy1) p1
  have e0 := tab8_at ⟨y1, hy⟩ hp
  have hle : Nat.log2 y1 < 8 := (Nat.log2_lt (by omega)).2 (by simpa using hy)
  have e1 : Nat.log2 x = Nat.log2 y1 + 16 := by rw [ly1]
  have e2 := fin_len 16 (Nat.log2 y1) (Nat.log2 x) _ e0 hle (by decide) e1
  have HE := Lib.hid e2
  clear e0 e1 e2 hle ly1 hy1
  clear c0 c1 c2
  go_enter Tryz.func102, Tryz.ntmps102
  go_wp2
  go_ret
  refine ⟨?_, rfl⟩
  exact congrArg (fun z => Ending.returned (.int .i64 z)) HE.out

set_option maxRecDepth 100000 in
theorem len_011 (x : Nat) (h0 : 0 < x) (hx : x < 18446744073709551616) (c0 : x < 4294967296) (c1 : 65536 ≤ x) (c2 : 256 ≤ (x / 65536)) (w : World) : Calls Tryz.prog 102 #[.int .u64 (x : Int)] w fun e w' => e = .returned (.int .i64 ((Nat.log2 x + 1 : Nat) : Int)) ∧ w = w' := by
  have g0 : decide (4294967296 ≤ (x : Int)) = false := decide_eq_false (by omega)
  have g1 : decide (65536 ≤ (x : Int)) = true := decide_eq_true (by omega)
  obtain ⟨y1, hy1⟩ : ∃ y1 : Nat, y1 = x / 65536 := ⟨_, rfl⟩
  have q1 : (x : Int) / 65536 = (y1 : Int) := by omega
  rw [← hy1] at c2
  have b1 : y1 < 65536 := by omega
  have p1 : 0 < y1 := by omega
  have g2 : decide (256 ≤ (y1 : Int)) = true := decide_eq_true (by omega)
  obtain ⟨y2, hy2⟩ : ∃ y2 : Nat, y2 = y1 / 256 := ⟨_, rfl⟩
  have q2 : (y1 : Int) / 256 = (y2 : Int) := by omega
  have b2 : y2 < 256 := by omega
  have p2 : 0 < y2 := by omega
  have hy : y2 < 256 := by omega
  have hp : 0 < y2 := by omega
  have ly1 := log2_shift x y1 16 (by simpa using hy1) p1
  have ly2 := log2_shift y1 y2 8 (by simpa using hy2) p2
  have e0 := tab8_at ⟨y2, hy⟩ hp
  have hle : Nat.log2 y2 < 8 := (Nat.log2_lt (by omega)).2 (by simpa using hy)
  have e1 : Nat.log2 x = Nat.log2 y2 + 24 := by rw [ly1, ly2]
  have e2 := fin_len 24 (Nat.log2 y2) (Nat.log2 x) _ e0 hle (by decide) e1
  have HE := Lib.hid e2
  clear e0 e1 e2 hle ly1 ly2 hy2 hy1
  clear c0 c1 c2
  go_enter Tryz.func102, Tryz.ntmps102
  go_wp2
  go_ret
  refine ⟨?_, rfl⟩
  exact congrArg (fun z => Ending.returned (.int .i64 z)) HE.out

set_option maxRecDepth 100000 in
theorem len_100 (x : Nat) (h0 : 0 < x) (hx : x < 18446744073709551616) (c0 : 4294967296 ≤ x) (c1 : (x / 4294967296) < 65536) (c2 : (x / 4294967296) < 256) (w : World) : Calls Tryz.prog 102 #[.int .u64 (x : Int)] w fun e w' => e = .returned (.int .i64 ((Nat.log2 x + 1 : Nat) : Int)) ∧ w = w' := by
  have g0 : decide (4294967296 ≤ (x : Int)) = true := decide_eq_true (by omega)
  obtain ⟨y0, hy0⟩ : ∃ y0 : Nat, y0 = x / 4294967296 := ⟨_, rfl⟩
  have q0 : (x : Int) / 4294967296 = (y0 : Int) := by omega
  rw [← hy0] at c1 c2
  have b0 : y0 < 4294967296 := by omega
  have p0 : 0 < y0 := by omega
  have g1 : decide (65536 ≤ (y0 : Int)) = false := decide_eq_false (by omega)
  have g2 : decide (256 ≤ (y0 : Int)) = false := decide_eq_false (by omega)
  have hy : y0 < 256 := by omega
  have hp : 0 < y0 := by omega
  have ly0 := log2_shift x y0 32 (by simpa using hy0) p0
  have e0 := tab8_at ⟨y0, hy⟩ hp
  have hle : Nat.log2 y0 < 8 := (Nat.log2_lt (by omega)).2 (by simpa using hy)
  have e1 : Nat.log2 x = Nat.log2 y0 + 32 := by rw [ly0]
  have e2 := fin_len 32 (Nat.log2 y0) (Nat.log2 x) _ e0 hle (by decide) e1
  have HE := Lib.hid e2
  clear e0 e1 e2 hle ly0 hy0
  clear c0 c1 c2
  go_enter Tryz.func102, Tryz.ntmps102
  go_wp2
  go_ret
  refine ⟨?_, rfl⟩
  exact congrArg (fun z => Ending.returned (.int .i64 z)) HE.out

set_option maxRecDepth 100000 in
theorem len_101 (x : Nat) (h0 : 0 < x) (hx : x < 18446744073709551616) (c0 : 4294967296 ≤ x) (c1 : (x / 4294967296) < 65536) (c2 : 256 ≤ (x / 4294967296)) (w : World) : Calls Tryz.prog 102 #[.int .u64 (x : Int)] w fun e w' => e = .returned (.int .i64 ((Nat.log2 x + 1 : Nat) : Int)) ∧ w = w' := by
  have g0 : decide (4294967296 ≤ (x : Int)) = true := decide_eq_true (by omega)
  obtain ⟨y0, hy0⟩ : ∃ y0 : Nat, y0 = x / 4294967296 := ⟨_, rfl⟩
  have q0 : (x : Int) / 4294967296 = (y0 : Int) := by omega
  rw [← hy0] at c1 c2
  have b0 : y0 < 4294967296 := by omega
  have p0 : 0 < y0 := by omega
  have g1 : decide (65536 ≤ (y0 : Int)) = false := decide_eq_false (by omega)
  have g2 : decide (256 ≤ (y0 : Int)) = true := decide_eq_true (by omega)
  obtain ⟨y2, hy2⟩ : ∃ y2 : Nat, y2 = y0 / 256 := ⟨_, rfl⟩
  have q2 : (y0 : Int) / 256 = (y2 : Int) := by omega
  have b2 : y2 < 256 := by omega
  have p2 : 0 < y2 := by omega
  have hy : y2 < 256 := by omega
  have hp : 0 < y2 := by omega
  have ly0 := log2_shift x y0 32 (by simpa using hy0) p0
  have ly2 := log2_shift y0 y2 8 (by simpa using hy2) p2
  have e0 := tab8_at ⟨y2, hy⟩ hp
  have hle : Nat.log2 y2 < 8 := (Nat.log2_lt (by omega)).2 (by simpa using hy)
  have e1 : Nat.log2 x = Nat.log2 y2 + 40 := by rw [ly0, ly2]
  have e2 := fin_len 40 (Nat.log2 y2) (Nat.log2 x) _ e0 hle (by decide) e1
  have HE := Lib.hid e2
  clear e0 e1 e2 hle ly0 ly2 hy2 hy0
  clear c0 c1 c2
  go_enter Tryz.func102, Tryz.ntmps102
  go_wp2
  go_ret
  refine ⟨?_, rfl⟩
  exact congrArg (fun z => Ending.returned (.int .i64 z)) HE.out

set_option maxRecDepth 100000 in
theorem len_110 (x : Nat) (h0 : 0 < x) (hx : x < 18446744073709551616) (c0 : 4294967296 ≤ x) (c1 : 65536 ≤ (x / 4294967296)) (c2 : ((x / 4294967296) / 65536) < 256) (w : World) : Calls Tryz.prog 102 #[.int .u64 (x : Int)] w fun e w' => e = .returned (.int .i64 ((Nat.log2 x + 1 : Nat) : Int)) ∧ w = w' := by
  have g0 : decide (4294967296 ≤ (x : Int)) = true := decide_eq_true (by omega)
  obtain ⟨y0, hy0⟩ : ∃ y0 : Nat, y0 = x / 4294967296 := ⟨_, rfl⟩
  have q0 : (x : Int) / 4294967296 = (y0 : Int) := by omega
  rw [← hy0] at c1 c2
  have b0 : y0 < 4294967296 := by omega
  have p0 : 0 < y0 := by omega
  have g1 : decide (65536 ≤ (y0 : Int)) = true := decide_eq_true (by omega)
  obtain ⟨y1, hy1⟩ : ∃ y1 : Nat, y1 = y0 / 65536 := ⟨_, rfl⟩
  have q1 : (y0 : Int) / 65536 = (y1 : Int) := by omega
  rw [← hy1] at c2
  have b1 : y1 < 65536 := by omega
  have p1 : 0 < y1 := by omega
  have g2 : decide (256 ≤ (y1 : Int)) = false := decide_eq_false (by omega)
  have hy : y1 < 256 := by omega
  have hp : 0 < y1 := by omega
  have ly0 := log2_shift x y0 32 (by simpa using hy0) p0
  have ly1 := log2_shift y0 y1 16 (by simpa using hy1) p1
  have e0 := tab8_at ⟨y1, hy⟩ hp
  have hle : Nat.log2 y1 < 8 := (Nat.log2_lt (by omega)).2 (by simpa using hy)
  have e1 : Nat.log2 x = Nat.log2 y1 + 48 := by rw [ly0, ly1]
  have e2 := fin_len 48 (Nat.log2 y1) (Nat.log2 x) _ e0 hle (by decide) e1
  have HE := Lib.hid e2
  clear e0 e1 e2 hle ly0 ly1 hy1 hy0
  clear c0 c1 c2
  go_enter Tryz.func102, Tryz.ntmps102
  go_wp2
  go_ret
  refine ⟨?_, rfl⟩
  exact congrArg (fun z => Ending.returned (.int .i64 z)) HE.out

set_option maxRecDepth 100000 in
theorem len_111 (x : Nat) (h0 : 0 < x) (hx : x < 18446744073709551616) (c0 : 4294967296 ≤ x) (c1 : 65536 ≤ (x / 4294967296)) (c2 : 256 ≤ ((x / 4294967296) / 65536)) (w : World) : Calls Tryz.prog 102 #[.int .u64 (x : Int)] w fun e w' => e = .returned (.int .i64 ((Nat.log2 x + 1 : Nat) : Int)) ∧ w = w' := by
  have g0 : decide (4294967296 ≤ (x : Int)) = true := decide_eq_true (by omega)
  obtain ⟨y0, hy0⟩ : ∃ y0 : Nat, y0 = x / 4294967296 := ⟨_, rfl⟩
  have q0 : (x : Int) / 4294967296 = (y0 : Int) := by omega
  rw [← hy0] at c1 c2
  have b0 : y0 < 4294967296 := by omega
  have p0 : 0 < y0 := by omega
  have g1 : decide (65536 ≤ (y0 : Int)) = true := decide_eq_true (by omega)
  obtain ⟨y1, hy1⟩ : ∃ y1 : Nat, y1 = y0 / 65536 := ⟨_, rfl⟩
  have q1 : (y0 : Int) / 65536 = (y1 : Int) := by omega
  rw [← hy1] at c2
  have b1 : y1 < 65536 := by omega
  have p1 : 0 < y1 := by omega
  have g2 : decide (256 ≤ (y1 : Int)) = true := decide_eq_true (by omega)
  obtain ⟨y2, hy2⟩ : ∃ y2 : Nat, y2 = y1 / 256 := ⟨_, rfl⟩
  have q2 : (y1 : Int) / 256 = (y2 : Int) := by omega
  have b2 : y2 < 256 := by omega
  have p2 : 0 < y2 := by omega
  have hy : y2 < 256 := by omega
  have hp : 0 < y2 := by omega
  have ly0 := log2_shift x y0 32 (by simpa using hy0) p0
  have ly1 := log2_shift y0 y1 16 (by simpa using hy1) p1
  have ly2 := log2_shift y1 y2 8 (by simpa using hy2) p2
  have e0 := tab8_at ⟨y2, hy⟩ hp
  have hle : Nat.log2 y2 < 8 := (Nat.log2_lt (by omega)).2 (by simpa using hy)
  have e1 : Nat.log2 x = Nat.log2 y2 + 56 := by rw [ly0, ly1, ly2]
  have e2 := fin_len 56 (Nat.log2 y2) (Nat.log2 x) _ e0 hle (by decide) e1
  have HE := Lib.hid e2
  clear e0 e1 e2 hle ly0 ly1 ly2 hy2 hy1 hy0
  clear c0 c1 c2
  go_enter Tryz.func102, Tryz.ntmps102
  go_wp2
  go_ret
  refine ⟨?_, rfl⟩
  exact congrArg (fun z => Ending.returned (.int .i64 z)) HE.out

theorem len64_any (x : Nat) (h0 : 0 < x) (hx : x < 18446744073709551616) (w : World) : Calls Tryz.prog 102 #[.int .u64 (x : Int)] w fun e w' => e = .returned (.int .i64 ((Nat.log2 x + 1 : Nat) : Int)) ∧ w = w' := by
  by_cases a : 4294967296 ≤ x
  · by_cases b : 65536 ≤ x / 4294967296
    · by_cases c : 256 ≤ x / 4294967296 / 65536
      · exact len_111 x h0 hx a b c w
      · exact len_110 x h0 hx a b (by omega) w
    · by_cases c : 256 ≤ x / 4294967296
      · exact len_101 x h0 hx a (by omega) c w
      · exact len_100 x h0 hx a (by omega) (by omega) w
  · by_cases b : 65536 ≤ x
    · by_cases c : 256 ≤ x / 65536
      · exact len_011 x h0 hx (by omega) b c w
      · exact len_010 x h0 hx (by omega) b (by omega) w
    · by_cases c : 256 ≤ x
      · exact len_001 x h0 hx (by omega) (by omega) c w
      · exact len_000 x h0 hx (by omega) (by omega) (by omega) w
set_option maxRecDepth 100000 in
theorem lead_any (x : Nat) (h0 : 0 < x) (hx : x < 18446744073709551616) (w : World) : Calls Tryz.prog 90 #[.int .u64 (x : Int)] w fun e w' => e = .returned (.int .i64 ((63 - Nat.log2 x : Nat) : Int)) ∧ w = w' := by
  have hl : Nat.log2 x ≤ 63 := (Gz.log_lt x (by omega) hx).1
  have e1 : (64 : Int) - ((Nat.log2 x + 1 : Nat) : Int) = ((63 - Nat.log2 x : Nat) : Int) := by omega
  have HC := Lib.hid (len64_any x h0 hx w)
  generalize Nat.log2 x + 1 = m at *
  generalize 63 - Nat.log2 x = k at *
  clear hl
  go_enter Tryz.func90, Tryz.ntmps90
  go_wp2_with (go_at_call 102; refine Calls.mono HC.out ?_; rintro e wz ⟨rfl, hw⟩; subst hw)
  go_ret
  exact ⟨rfl, rfl⟩

/-- The library's table, as its initialiser lays it. -/
def TabW (w : World) : Prop := ∀ j, j < 64 → w.cell? ⟨1, j, none⟩ = some (.int .u8 (Lib.deBruijn64tab.getD j 0))
theorem TabW.below {w w' : World} {B : Nat} (h : TabW w) (hb : Below B w w') (hB : 1 < B) : TabW w' := fun j hj => (World.cell?_of_block (a := ⟨1, j, none⟩) (hb.block 1 hB)).trans (h j hj)
theorem tz_key (x a : Nat) (hx : x < 18446744073709551616) (hlow : x &&& (18446744073709551616 - x) = a) (hx0 : x ≠ 0) :
    IntKind.u64.wrap (bits BinOp.and IntKind.u64 (x : Int) (IntKind.u64.wrap (-(x : Int))) * 285870213051353865) / 288230376151711744 = ((a * 285870213051353865 % 18446744073709551616 / 288230376151711744 : Nat) : Int) := by
  have e1 : IntKind.u64.wrap (-(x : Int)) = ((18446744073709551616 - x : Nat) : Int) := by rw [IntKind.wrap_u64]; omega
  rw [e1, bits_and_u64_nat x _ hx (by omega), hlow, IntKind.wrap_u64]
  omega
set_option maxRecDepth 100000 in
theorem trail0 (x k idx : Nat) (w : World) (hx0 : ((x : Int) == 0) = false)
    (key : IntKind.u64.wrap (bits BinOp.and IntKind.u64 (x : Int) (IntKind.u64.wrap (-(x : Int))) * 285870213051353865) / 288230376151711744 = (idx : Int))
    (hi : idx < 64) (hk : k < 64) (hcell : w.cell? ⟨1, idx, none⟩ = some (.int .u8 k)) :
    Calls Tryz.prog 91 #[.int .u64 (x : Int)] w fun e w' => e = .returned (.int .i64 (k : Int)) ∧ w = w' := by
  go_enter Tryz.func91, Tryz.ntmps91
  go_wp2_with (simp only [key])
  go_ret
  exact ⟨rfl, rfl⟩
theorem trail_any (x : Nat) (h0 : 0 < x) (hx : x < 18446744073709551616) (w : World) (hT : TabW w) : Calls Tryz.prog 91 #[.int .u64 (x : Int)] w fun e w' => e = .returned (.int .i64 ((Gz.tz x : Nat) : Int)) ∧ w = w' := by
  obtain ⟨hlow, hk⟩ := Lib.lowest_bit 64 x (by omega) hx
  obtain ⟨hi, htab⟩ := Lib.deBruijn64_at _ hk
  have hcell := hT _ hi
  rw [htab] at hcell
  exact trail0 x _ _ w (by simp; omega) (tz_key x _ hx hlow (by omega)) hi hk hcell
end Go.Proofs.YtepjpdhmjchakaaGreatDoor
