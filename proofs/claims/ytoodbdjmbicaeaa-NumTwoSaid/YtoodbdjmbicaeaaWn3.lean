/- Whole numbers of the document's answer: a bit, compared. No condition. -/
import Derived.Test.YtoodbdjmbicaeaaWn2
namespace Go.Proofs.Ytoodbdjmbicaeaa
open Go.RowKit
set_option maxRecDepth 8000
set_option linter.unusedVariables false

theorem wrd_bit (n d r : Nat) (hr : r < 32) : (wrd n d / 2 ^ r % 2 == 1) = n.testBit (32 * d + r) := by
  have h1 : (wrd n d).testBit r = n.testBit (32 * d + r) := by
    unfold wrd
    rw [show (4294967296 : Nat) ^ d = 2 ^ (32 * d) from b_pow d, show (4294967296 : Nat) = 2 ^ 32 from rfl, Nat.testBit_mod_two_pow, Nat.testBit_div_two_pow, decide_eq_true hr, Bool.true_and, Nat.add_comm]
  rw [← h1, Nat.testBit_eq_decide_div_mod_eq]
  rfl

/-- A bit. -/
theorem kbit {lo : Nat} {w : World} {v : Value} {n : Nat} (h : Bg lo w v n) (i : Nat) (hi : i < 1000000000) : Kp 102 #[v, .int .i64 (i : Int)] w (.bool (n.testBit i)) := by
  obtain ⟨ao, cap, L, rfl, hL, hLb, hlt, h0, hp, hcell⟩ := h.open
  clear hL h0 hp
  obtain ⟨d, hd⟩ : ∃ d, i / 32 = d := ⟨_, rfl⟩
  obtain ⟨r, hr⟩ : ∃ r, i % 32 = r := ⟨_, rfl⟩
  have e1 : (i : Int) / 32 = (d : Int) := by omega
  have e2 : (i : Int) % 32 = (r : Int) := by omega
  have hi2 : i = 32 * d + r := by omega
  have hr32 : r < 32 := by omega
  have hi0 : (0 : Int) ≤ (i : Int) := by omega
  by_cases hdl : d < L
  · obtain ⟨b, off, rfl, _, _, hc⟩ := hcell (by omega)
    have c0 := hc d hdl
    have hb := wrd_bit n d r hr32
    rw [← hi2] at hb
    rw [← hb]
    obtain ⟨y, hy⟩ : ∃ y, wrd n d = y := ⟨_, rfl⟩
    have hyl : y < 4294967296 := by rw [← hy]; exact wrd_lt _ _
    rw [hy] at c0 ⊢
    obtain ⟨z, hz⟩ : ∃ z, y / 2 ^ r = z := ⟨_, rfl⟩
    have hzl : z < 4294967296 := by rw [← hz]; exact Nat.lt_of_le_of_lt (Nat.div_le_self _ _) hyl
    have hsh : Op.shift .shr .u32 (y : Int) .u64 (r : Int) = pure (.int .u32 (z : Int)) := by
      rw [shift_shr .u32 .u64 _ _ (by omega) (by simp [IntKind.bits]; omega), Int.toNat_natCast, ← hz]
      rw [Int.natCast_ediv, Int.natCast_pow]; rfl
    have hyz : (y : Int) / 2 ^ r = (z : Int) := by rw [← hz, Int.natCast_ediv, Int.natCast_pow]; rfl
    have hand : bits .and .u32 ((y : Int) / 2 ^ r) 1 = ((z % 2 : Nat) : Int) := by
      rw [hyz]
      show IntKind.u32.wrap ((BitVec.ofInt 32 (z : Int) &&& BitVec.ofInt 32 1).toNat : Int) = _
      rw [BitVec.toNat_and, BitVec.ofInt_natCast, BitVec.toNat_ofNat, show (BitVec.ofInt 32 (1 : Int)).toNat = 1 by decide, Nat.and_one_is_mod, IntKind.wrap_u32']
      omega
    have hcv : IntKind.u64.wrap (r : Int) = (r : Int) := by rw [IntKind.wrap_u64]; omega
    have hdl2 : (d : Int) < (L : Int) := by omega
    rw [hz]
    have h01 : z % 2 = 0 ∨ z % 2 = 1 := by omega
    clear hcell hlt hc hb hi2 hy hz hd hr hyz
    rcases h01 with h01 | h01
    all_goals
      rw [h01] at hand ⊢
      go_enter Try.func102, Try.ntmps102
      go_wp2
      go_ret
      exact ⟨rfl, rfl⟩
  · have hf : n.testBit i = false := by
      refine Nat.testBit_lt_two_pow (Nat.lt_of_lt_of_le hlt ?_)
      rw [b_pow]
      exact Nat.pow_le_pow_right (by decide) (by omega)
    rw [hf]
    have hdl2 : ¬ (d : Int) < (L : Int) := by omega
    clear hcell hlt hf hi2 hd hr
    go_enter Try.func102, Try.ntmps102
    go_wp2
    go_ret
    exact ⟨rfl, rfl⟩

/-- A power, behind a name that simp does not open. -/
def bp (j : Nat) : Nat := 4294967296 ^ j
theorem bp_zero : bp 0 = 1 := rfl
/-- How two numbers stand. -/
def cmpN (a b : Nat) : Int := if a < b then -1 else if b < a then 1 else 0
theorem div_step (a i : Nat) : a / bp i = a / bp (i + 1) * 4294967296 + wrd a i := by
  unfold wrd bp
  rw [b_succ, ← Nat.div_div_eq_div_mul]
  omega
theorem lt_of_div {a b P : Nat} (h : a / P < b / P) : a < b := Nat.lt_of_not_le fun hle => by have := Nat.div_le_div_right (c := P) hle; omega

theorem kless {lo lo' : Nat} {w : World} {v v' : Value} {a b : Nat} (h : Bg lo w v a) (h' : Bg lo' w v' b) : Kn 82 #[v, v'] w (.int .i64 (cmpN a b)) := by
  obtain ⟨ao, cap, L, rfl, hL, hLb, hlt, h0, hp, hcell⟩ := h.open
  obtain ⟨ao', cap', L', rfl, hL', hLb', hlt', h0', hp', hcell'⟩ := h'.open
  clear hL hL'
  by_cases hll : L = L'
  · subst hll
    have hb : ((L : Int) != (L : Int)) = false := by simp
    have HA := Lib.hid hlt
    have HB := Lib.hid hlt'
    have HC := Lib.hid hcell
    have HD := Lib.hid hcell'
    clear hlt hlt' h0 h0' hp hp' hcell hcell'
    go_enter Try.func82, Try.ntmps82
    go_wp2
    go_loopw [5] (fun i wr => ∃ (j n : Nat) (z : Int), j ≤ L ∧ i = .int .i64 z ∧ z = (j : Int) - 1 ∧ a / bp j = b / bp j ∧ wr = w.drewN n) (fun i _ => ((intOf i) + 1).toNat)
    case atStart =>
      exact ⟨L, 0, (L : Int) - 1, Nat.le_refl _, by simp, rfl, by unfold bp; rw [Nat.div_eq_of_lt HA.out, Nat.div_eq_of_lt HB.out], rfl⟩
    case round =>
      obtain ⟨j, n, z, hj, rfl, hz, hq, rfl⟩ := hrel
      by_cases hj0 : j = 0
      · subst hj0
        obtain rfl : z = -1 := by omega
        clear hz
        have hab : a = b := by rw [bp_zero, Nat.div_one, Nat.div_one] at hq; exact hq
        clear hq
        go_wp2
        go_ret
        refine ⟨?_, n, rfl⟩
        have : cmpN a b = 0 := by unfold cmpN; rw [if_neg (by omega), if_neg (by omega)]
        rw [this]; rfl
      · obtain ⟨k, rfl⟩ : ∃ k, j = k + 1 := ⟨j - 1, by omega⟩
        obtain rfl : z = (k : Int) := by omega
        clear hz
        obtain ⟨bb, off, rfl, _, _, hc⟩ := HC.out (by omega)
        obtain ⟨bb', off', rfl, _, _, hc'⟩ := HD.out (by omega)
        have c1 := hc k (by omega)
        have c2 := hc' k (by omega)
        have d1 := div_step a k
        have d2 := div_step b k
        have HQ := Lib.hid hq
        obtain ⟨x, hx⟩ : ∃ x, wrd a k = x := ⟨_, rfl⟩
        obtain ⟨y, hy⟩ : ∃ y, wrd b k = y := ⟨_, rfl⟩
        rw [hx] at c1 d1
        rw [hy] at c2 d2
        have D1 := Lib.hid d1
        have D2 := Lib.hid d2
        have i1 : (0 : Int) ≤ (k : Int) ∧ (k : Int) < (L : Int) := by omega
        clear hc hc' hx hy hq d1 d2
        rcases Nat.lt_trichotomy x y with hxy | hxy | hxy
        · have hx1 : (x : Int) < (y : Int) := by omega
          have hlt2 : a < b := lt_of_div (P := bp k) (by have := D1.out; have := D2.out; have := HQ.out; omega)
          have HL := Lib.hid hlt2
          clear hlt2
          go_wp2
          go_quiet (fail)
          go_wp2
          go_ret
          refine ⟨?_, n + nq, by simp only [World.drewN_drewN]⟩
          have hv : cmpN a b = -1 := by
            unfold cmpN
            rw [if_pos HL.out]
          rw [hv]
          rfl
        · have hx1 : ¬ (x : Int) < (y : Int) := by omega
          have hx2 : ¬ (y : Int) < (x : Int) := by omega
          have hq2 : a / bp k = b / bp k := by have := D1.out; have := D2.out; have := HQ.out; omega
          have HQ2 := Lib.hid hq2
          clear hq2
          subst hxy
          go_wp2
          go_quiet (fail)
          revert nq; intro q1
          go_wp2
          go_quiet (fail)
          go_wp2
          go_roundw
          case rel => exact ⟨k, _, _, by omega, rfl, by omega, HQ2.out, rfl⟩
          case measure => simp [intOf]
        · have hx1 : ¬ (x : Int) < (y : Int) := by omega
          have hx2 : (y : Int) < (x : Int) := by omega
          have hlt2 : b < a := lt_of_div (P := bp k) (by have := D1.out; have := D2.out; have := HQ.out; omega)
          have HL := Lib.hid hlt2
          clear hlt2
          go_wp2
          go_quiet (fail)
          revert nq; intro q1
          go_wp2
          go_quiet (fail)
          go_wp2
          go_ret
          refine ⟨?_, n + q1 + nq, by simp only [World.drewN_drewN]⟩
          have hv : cmpN a b = 1 := by
            unfold cmpN
            rw [if_neg (by have := HL.out; omega), if_pos HL.out]
          rw [hv]
          rfl
  · have hb : ((L : Int) != (L' : Int)) = true := by simpa using fun e : (L : Int) = (L' : Int) => hll (by omega)
    rcases Nat.lt_or_gt_of_ne hll with h1 | h1
    · have hv : cmpN a b = -1 := by
        have hb0 : b ≠ 0 := fun e => by have := h0' e; omega
        have h2 := (hp' hb0).2
        have h3 : 4294967296 ^ L ≤ 4294967296 ^ (L' - 1) := Nat.pow_le_pow_right (by decide) (by omega)
        unfold cmpN
        rw [if_pos (by omega)]
      rw [hv]
      have i1 : (L : Int) < (L' : Int) := by omega
      clear hlt hlt' h0 h0' hp hp' hcell hcell' hv hll h1
      go_enter Try.func82, Try.ntmps82
      go_wp2
      go_ret
      exact ⟨rfl, 0, rfl⟩
    · have hv : cmpN a b = 1 := by
        have hb0 : a ≠ 0 := fun e => by have := h0 e; omega
        have h2 := (hp hb0).2
        have h3 : 4294967296 ^ L' ≤ 4294967296 ^ (L - 1) := Nat.pow_le_pow_right (by decide) (by omega)
        unfold cmpN
        rw [if_neg (by omega), if_pos (by omega)]
      rw [hv]
      have i1 : ¬ (L : Int) < (L' : Int) := by omega
      clear hlt hlt' h0 h0' hp hp' hcell hcell' hv hll h1
      go_enter Try.func82, Try.ntmps82
      go_wp2
      go_ret
      exact ⟨rfl, 0, rfl⟩
end Go.Proofs.Ytoodbdjmbicaeaa
