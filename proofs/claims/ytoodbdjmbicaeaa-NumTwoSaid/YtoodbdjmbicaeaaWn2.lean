/- Whole numbers of the document's answer: how many bits, one bit, the lowest ones, compared. No condition. -/
import Derived.Test.YtoodbdjmbicaeaaWn1
import Derived.Deep.QuietTactic
import Derived.BigQuiet
namespace Go.Proofs.Ytoodbdjmbicaeaa
open Go.RowKit
set_option maxRecDepth 8000
set_option linter.unusedVariables false

/-- A word of a number. -/
def wrd (n j : Nat) : Nat := n / 4294967296 ^ j % 4294967296
theorem wrd_lt (n j : Nat) : wrd n j < 4294967296 := Nat.mod_lt _ (by decide)
/-- What is read of a number. -/
theorem Bg.open {lo : Nat} {w : World} {v : Value} {n : Nat} (h : Bg lo w v n) : ∃ ao cap L, v = .slice ao L cap ∧ L = (dig n).length ∧ L ≤ 140737488355328 ∧ n < 4294967296 ^ L ∧ (n = 0 → L = 0) ∧ (n ≠ 0 → 0 < L ∧ 4294967296 ^ (L - 1) ≤ n) ∧
    (0 < L → ∃ b off, ao = some ⟨b, off, none⟩ ∧ lo ≤ b ∧ b < w.heap.size ∧ ∀ j, j < L → w.cell? ⟨b, off + j, none⟩ = some (.int .u32 ((wrd n j : Nat) : Int))) := by
  obtain ⟨ao, cap, rfl, hsc⟩ := h
  refine ⟨ao, cap, _, rfl, rfl, hsc.len, dig_lt n, fun h => by rw [h, dig_zero]; rfl, dig_ge, fun h0 => ?_⟩
  obtain ⟨b, off, rfl, h1, h2, hc⟩ := hsc.cells (List.length_pos_iff.1 h0)
  refine ⟨b, off, rfl, h1, h2, fun j hj => ?_⟩
  rw [hc j hj, dig_get hj]
  rfl

theorem or64 {a b : Nat} (ha : a < 2 ^ 64) (hb : b < 2 ^ 64) : bits .or .u64 (a : Int) (b : Int) = ((a ||| b : Nat) : Int) := by
  show IntKind.u64.wrap ((BitVec.ofInt 64 (a : Int) ||| BitVec.ofInt 64 (b : Int)).toNat : Int) = _
  rw [BitVec.toNat_or, toNat_of a ha, toNat_of b hb]
  exact wrap_u64 (Nat.or_lt_two_pow ha hb)
theorem orNat {x y k : Nat} (hx : x < 2 ^ k) : x ||| 2 ^ k * y = x + 2 ^ k * y := by
  rw [Nat.or_comm, ← Nat.two_pow_add_eq_or_of_lt hx y, Nat.add_comm]
theorem klow {lo : Nat} {w : World} {v : Value} {n : Nat} (h : Bg lo w v n) : Kp 87 #[v] w (wd (n % 2 ^ 64)) := by
  obtain ⟨ao, cap, L, rfl, hL, _, hlt, h0, _, hcell⟩ := h.open
  clear hL
  have e64 : n % 2 ^ 64 = wrd n 0 + wrd n 1 * 4294967296 := by unfold wrd; simp only [Nat.pow_zero, Nat.div_one, Nat.pow_one]; omega
  rw [e64]
  obtain ⟨x, hx⟩ : ∃ x, wrd n 0 = x := ⟨_, rfl⟩
  obtain ⟨y, hy⟩ : ∃ y, wrd n 1 = y := ⟨_, rfl⟩
  have hxl : x < 4294967296 := by rw [← hx]; exact wrd_lt _ _
  have hyl : y < 4294967296 := by rw [← hy]; exact wrd_lt _ _
  rw [hx, hy]
  by_cases hL0 : L = 0
  · have hn : n = 0 := by rw [hL0, Nat.pow_zero] at hlt; omega
    have hx0 : x = 0 := by rw [← hx, hn]; rfl
    have hy0 : y = 0 := by rw [← hy, hn]; rfl
    subst hx0 hy0
    subst hL0
    clear hcell hlt h0
    go_enter Try.func87, Try.ntmps87
    go_wp2
    go_ret
    exact ⟨rfl, rfl⟩
  · obtain ⟨b, off, rfl, _, _, hc⟩ := hcell (by omega)
    have c0 : w.cell? ⟨b, off, none⟩ = some (.int .u32 (x : Int)) := by have := hc 0 (by omega); rw [hx] at this; exact this
    have i0 : (0 : Int) < (L : Int) := by omega
    by_cases hL1 : L = 1
    · have hy0 : y = 0 := by
        rw [← hy]; unfold wrd
        rw [hL1] at hlt
        rw [Nat.div_eq_of_lt hlt]
      subst hL1 hy0
      clear hcell hlt h0 hc
      have e0 : ((x + 0 * 4294967296 : Nat) : Int) = (x : Int) := by omega
      go_enter Try.func87, Try.ntmps87
      go_wp2
      go_ret
      exact ⟨by simp, rfl⟩
    · have c1 := hc 1 (by omega)
      rw [hy] at c1
      have i1 : (1 : Int) < (L : Int) := by omega
      have hor : bits .or .u64 (x : Int) ((y : Int) * 4294967296) = ((x + y * 4294967296 : Nat) : Int) := by
        have e : (y : Int) * 4294967296 = ((2 ^ 32 * y : Nat) : Int) := by omega
        rw [e, or64 (by omega) (by omega), orNat (by omega)]
        omega
      clear hcell hlt h0 hc
      go_enter Try.func87, Try.ntmps87
      go_wp2
      go_ret
      exact ⟨by simp, rfl⟩

/-- How many bits. -/
theorem kbsize {lo : Nat} {w : World} {v : Value} {n : Nat} (h : Bg lo w v n) : Kp 86 #[v] w (.int .i64 (size n)) := by
  obtain ⟨ao, cap, L, rfl, hL, hLb, hlt, h0, hp, hcell⟩ := h.open
  have hsz := size_dig (n := n)
  rw [← hL] at hsz
  clear hL
  by_cases hn : n = 0
  · obtain rfl := h0 hn
    subst hn
    rw [size_zero]
    clear hcell hlt h0 hp hsz
    go_enter Try.func86, Try.ntmps86
    go_wp2
    go_ret
    exact ⟨rfl, rfl⟩
  · obtain ⟨h1, h2⟩ := hp hn
    obtain ⟨l, rfl⟩ : ∃ l, L = l + 1 := ⟨L - 1, by omega⟩
    obtain ⟨b, off, rfl, _, _, hc⟩ := hcell h1
    have hs := hsz hn
    rw [Nat.add_sub_cancel] at hs h2
    have hy : wrd n l = n / 4294967296 ^ l := by
      unfold wrd
      refine Nat.mod_eq_of_lt ?_
      rw [b_succ, Nat.mul_comm] at hlt
      exact (Nat.div_lt_iff_lt_mul (b_pos l)).2 hlt
    have c0 := hc l (by omega)
    rw [hy] at c0
    obtain ⟨y, hyy⟩ : ∃ y, n / 4294967296 ^ l = y := ⟨_, rfl⟩
    rw [hyy] at c0 hs hy
    have hyl : y < 4294967296 := by rw [← hy]; exact wrd_lt _ _
    have hys : y < 2 ^ size y := size_le.1 (Nat.le_refl _)
    have hys2 : ∀ j, j < size y → 0 < y / 2 ^ j := by
      intro j hj
      refine Nat.pos_of_ne_zero fun h => ?_
      have := (Nat.div_eq_zero_iff_lt (Nat.two_pow_pos j)).1 h
      have := size_le.2 this
      omega
    rw [hs]
    obtain ⟨Z, hZ⟩ : ∃ Z, size y = Z := ⟨_, rfl⟩
    rw [hZ] at hys hys2
    rw [hZ]
    have HS := Lib.hid hys
    have HP := Lib.hid hys2
    have hZ32 : Z ≤ 32 := by rw [← hZ]; exact size_le.2 hyl
    have i1 : (0 : Int) ≤ (l : Int) ∧ (l : Int) < (l : Int) + 1 := by omega
    clear hcell hlt h0 hp hsz hc hs hy hyy hys hys2 hZ h1 h2 hn
    go_enter Try.func86, Try.ntmps86
    go_wp2
    go_loopw [3, 4] (fun k x wr => ∃ j, j ≤ Z ∧ k = .int .i64 (32 * (l : Int) + j) ∧ x = .int .u32 ((y / 2 ^ j : Nat) : Int) ∧ wr = w) (fun k _ _ => 32 * l + Z - (intOf k).toNat)
    case atStart => exact ⟨0, by omega, by simp, by simp, rfl⟩
    case round =>
      obtain ⟨j, hj, rfl, rfl, rfl⟩ := hrel
      by_cases hlt : j < Z
      · have h1 := HP.out j hlt
        have e2 : ((y / 2 ^ j : Nat) : Int) / 2 = ((y / 2 ^ (j + 1) : Nat) : Int) := by
          rw [Nat.pow_succ, ← Nat.div_div_eq_div_mul]; omega
        obtain ⟨x, hx⟩ : ∃ x, y / 2 ^ j = x := ⟨_, rfl⟩
        rw [hx] at h1 e2 ⊢
        have h2 : (0 : Int) < (x : Int) := by omega
        have E2 := Lib.hid e2
        clear e2
        go_wp2
        go_roundw
        case rel => exact ⟨j + 1, by omega, by simp; omega, by rw [E2.out], trivial⟩
        case measure => simp [intOf]; omega
      · obtain rfl : j = Z := by omega
        have e0 : y / 2 ^ j = 0 := Nat.div_eq_of_lt HS.out
        rw [e0]
        go_wp2
        go_ret
        exact ⟨by simp, rfl⟩
end Go.Proofs.Ytoodbdjmbicaeaa
