/- The document's Cmp, Order, Min, Max, Nearest; the program's Min, Max, Nearest. No condition. -/
import Derived.Test.YtoodbdjmbicaeaaGreatDoorGm1
namespace Go.Proofs.YtoodbdjmbicaeaaGreatDoor
open Go.RowKit
set_option maxRecDepth 8000
set_option maxHeartbeats 1000000
set_option linter.unusedVariables false
set_option linter.unusedSimpArgs false

theorem cmp_pos {a b : Nat} (sa : isNeg a = false) (sb : isNeg b = false) (na : nanW a = false) (nb : nanW b = false) : cmpC a b = cmpN (val (rung a)) (val (rung b)) := by
  rw [(cmp_not na nb).1]
  unfold ival cmpN
  rw [sa, sb]
  simp only [Bool.false_eq_true, if_false]
  by_cases h1 : val (rung a) < val (rung b)
  · rw [if_pos (by omega), if_pos h1]
  · rw [if_neg (by omega), if_neg h1]
    by_cases h2 : val (rung b) < val (rung a)
    · rw [if_pos (by omega), if_pos h2]
    · rw [if_neg (by omega), if_neg h2]
theorem cmp_negs {a b : Nat} (sa : isNeg a = true) (sb : isNeg b = true) (na : nanW a = false) (nb : nanW b = false) : cmpC a b = -cmpN (val (rung a)) (val (rung b)) := by
  rw [(cmp_not na nb).1]
  unfold ival cmpN
  rw [sa, sb]
  simp only [if_true]
  by_cases h1 : val (rung a) < val (rung b)
  · rw [if_neg (by omega), if_pos (by omega), if_pos h1]; rfl
  · rw [if_neg h1]
    by_cases h2 : val (rung b) < val (rung a)
    · rw [if_pos (by omega), if_pos h2]
    · rw [if_neg (by omega), if_neg (by omega), if_neg h2]; rfl
theorem cmpN_scale {x y k : Nat} : cmpN (x * 2 ^ k) (y * 2 ^ k) = cmpN x y := by
  unfold cmpN
  have h := Nat.two_pow_pos k
  simp only [Nat.mul_lt_mul_right h]
theorem cmpN_le (x y : Nat) : -1 ≤ cmpN x y ∧ cmpN x y ≤ 1 := by unfold cmpN; split; omega; split <;> omega
theorem cmp_diff {a b : Nat} (sa : isNeg a = true) (sb : isNeg b = false) (h : ¬ (rung a = 0 ∧ rung b = 0)) (na : nanW a = false) (nb : nanW b = false) : cmpC a b = -1 ∧ cmpC b a = 1 := by
  rw [(cmp_not na nb).1, (cmp_not nb na).1]
  have h1 : val (rung a) = 0 → rung a = 0 := fun k => Classical.byContradiction fun h => val_pos h k
  have h2 : val (rung b) = 0 → rung b = 0 := fun k => Classical.byContradiction fun h => val_pos h k
  have h3 : ival a < ival b := by
    unfold ival
    rw [sa, sb]
    simp only [if_true, Bool.false_eq_true, if_false]
    by_cases k1 : val (rung a) = 0
    · by_cases k2 : val (rung b) = 0
      · exact absurd ⟨h1 k1, h2 k2⟩ h
      · omega
    · omega
  rw [if_pos h3, if_neg (by omega), if_pos h3]
  exact ⟨rfl, rfl⟩
theorem krCmp {a b : Nat} (ha : a < 2 ^ 64) (hb : b < 2 ^ 64) (w : World) : Kb 36 #[wd a, wd b] w (.tuple #[.int .i64 (cmpC a b), .bool (cmpK a b)]) := by
  cases na : nanW a
  · cases nb : nanW b
    · rw [(cmp_not na nb).2]
      by_cases hz2 : rung a = 0 ∧ rung b = 0
      · have hc : cmpC a b = 0 := by
          rw [(cmp_not na nb).1, (ival_zero_iff (x := a)).2 hz2.1, (ival_zero_iff (x := b)).2 hz2.2]; rfl
        rw [hc]
        exact krcmp2 a b ha hb w na nb (zeroT hz2.1) (zeroT hz2.2)
      · have hz : zeroW a = false ∨ (zeroW a = true ∧ zeroW b = false) := by
          by_cases h : rung a = 0
          · exact .inr ⟨zeroT h, zeroF fun k => hz2 ⟨h, k⟩⟩
          · exact .inl (zeroF h)
        have la := nan_false na
        have lb := nan_false nb
        have fin (ia : rung a ≠ infR) (ib : rung b ≠ infR) := krline ha hb (Nat.lt_of_le_of_ne la ia) (Nat.lt_of_le_of_ne lb ib) w
        have zk : cmpN (sig a (min (pl (rung a)) (pl (rung b)))) (sig b (min (pl (rung a)) (pl (rung b)))) = cmpN (val (rung a)) (val (rung b)) := by
          rw [← cmpN_scale (k := min (pl (rung a)) (pl (rung b))), sig_val (Nat.min_le_left _ _), sig_val (Nat.min_le_right _ _)]
        cases sa : isNeg a <;> cases sb : isNeg b
        · rw [cmp_pos sa sb na nb]
          by_cases ia : rung a = infR <;> by_cases ib : rung b = infR
          · have : cmpN (val (rung a)) (val (rung b)) = 0 := by
              rw [ia, ib]; unfold cmpN; rw [if_neg (Nat.lt_irrefl _), if_neg (Nat.lt_irrefl _)]
            rw [this]
            exact krcmp4af a b ha hb w na nb hz sa sb (infT ia) (infT ib)
          · have : cmpN (val (rung a)) (val (rung b)) = 1 := by
              have := val_lt (Nat.lt_of_le_of_ne lb ib)
              unfold cmpN; rw [ia, if_neg (by omega), if_pos this]
            rw [this]
            exact krcmp4bf a b ha hb w na nb hz sa sb (infT ia) (infF ib)
          · have : cmpN (val (rung a)) (val (rung b)) = -1 := by
              have := val_lt (Nat.lt_of_le_of_ne la ia)
              unfold cmpN; rw [ib, if_pos this]
            rw [this]
            exact krcmp4cf a b ha hb w na nb hz sa sb (infF ia) (infT ib)
          · exact krcmp5f a b _ _ _ _ ha hb w na nb hz sa sb (infF ia) (infF ib) (fin ia ib) zk (cmpN_le _ _)
        · rw [(cmp_diff sb sa (fun k => hz2 ⟨k.2, k.1⟩) nb na).2]
          exact krcmp3b a b ha hb w na nb hz sa sb
        · rw [(cmp_diff sa sb hz2 na nb).1]
          exact krcmp3a a b ha hb w na nb hz sa sb
        · rw [cmp_negs sa sb na nb]
          by_cases ia : rung a = infR <;> by_cases ib : rung b = infR
          · have : cmpN (val (rung a)) (val (rung b)) = 0 := by
              rw [ia, ib]; unfold cmpN; rw [if_neg (Nat.lt_irrefl _), if_neg (Nat.lt_irrefl _)]
            rw [this]
            exact krcmp4at a b ha hb w na nb hz sa sb (infT ia) (infT ib)
          · have : cmpN (val (rung a)) (val (rung b)) = 1 := by
              have := val_lt (Nat.lt_of_le_of_ne lb ib)
              unfold cmpN; rw [ia, if_neg (by omega), if_pos this]
            rw [this]
            exact krcmp4bt a b ha hb w na nb hz sa sb (infT ia) (infF ib)
          · have : cmpN (val (rung a)) (val (rung b)) = -1 := by
              have := val_lt (Nat.lt_of_le_of_ne la ia)
              unfold cmpN; rw [ib, if_pos this]
            rw [this]
            exact krcmp4ct a b ha hb w na nb hz sa sb (infF ia) (infT ib)
          · exact krcmp5t a b _ _ _ _ ha hb w na nb hz sa sb (infF ia) (infF ib) (fin ia ib) zk (cmpN_le _ _)
    · rw [(cmp_nan (.inr nb)).1, (cmp_nan (.inr nb)).2]
      exact krcmp1 a b ha hb w (.inr ⟨na, nb⟩)
  · rw [(cmp_nan (.inl na)).1, (cmp_nan (.inl na)).2]
    exact krcmp1 a b ha hb w (.inl na)

end Go.Proofs.YtoodbdjmbicaeaaGreatDoor
