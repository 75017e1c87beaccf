/- The document's Mul and Div, of any words. No condition. -/
import Derived.Test.YtoodbdjmbicaeaaGreatDoorRf5
namespace Go.Proofs.YtoodbdjmbicaeaaGreatDoor
open Go.RowKit
set_option maxRecDepth 8000
set_option linter.unusedVariables false

theorem infT {a : Nat} (h : rung a = infR) : isInfW a = true := by unfold isInfW; rw [h]; decide
theorem infF {a : Nat} (h : rung a ≠ infR) : isInfW a = false := by unfold isInfW; simpa using h
theorem zeroT {a : Nat} (h : rung a = 0) : zeroW a = true := by unfold zeroW; rw [h]; decide
theorem zeroF {a : Nat} (h : rung a ≠ 0) : zeroW a = false := by unfold zeroW; simpa using h
theorem inf_ne {a : Nat} (h : rung a = infR) : rung a ≠ 0 := by rw [h]; decide

theorem krmul {a b : Nat} (ha : a < 2 ^ 64) (hb : b < 2 ^ 64) (w : World) : Kb 39 #[wd a, wd b] w (wd (opt (Ieee.double.mul a b))) := by
  cases na : nanW a
  · cases nb : nanW b
    · have la := nan_false na
      have lb := nan_false nb
      by_cases ia : rung a = infR
      · by_cases zb : rung b = 0
        · rw [mul_inf_num ia (by rw [zb]; decide), if_pos zb]
          exact mulI1 a b ha hb w na nb (infT ia) (zeroT zb)
        · by_cases ib : rung b = infR
          · rw [mul_infs ia ib, opt_word (Nat.le_refl _), xor_bne]
            exact mulI3 a b ha hb w na nb (infT ia) (zeroF zb) (infT ib) (zeroF (inf_ne ia))
          · rw [mul_inf_num ia (by omega), if_neg zb, opt_word (Nat.le_refl _), xor_bne]
            exact mulI4 a b ha hb w na nb (infT ia) (zeroF zb) (infF ib)
      · by_cases ib : rung b = infR
        · by_cases za : rung a = 0
          · rw [mul_comm', mul_inf_num ib (by rw [za]; decide), if_pos za]
            exact mulI2 a b ha hb w na nb (infF ia) (infT ib) (zeroT za)
          · rw [mul_comm', mul_inf_num ib (by omega), if_neg za, opt_word (Nat.le_refl _), Bool.xor_comm, xor_bne]
            exact mulI5 a b ha hb w na nb (infF ia) (infT ib) (zeroF za)
        · have fa : rung a < infR := by omega
          have fb : rung b < infR := by omega
          have pa := pl_le fa
          have pb := pl_le fb
          rw [mul_ref fa fb, xor_bne]
          exact mulF a b _ _ _ _ ha hb (mg_lt _) (mg_lt _) (by omega) w na nb (infF ia) (infF ib) (fun w => kropen ha w) (fun w => kropen hb w)
    · rw [mul_nan (.inr nb)]
      exact mulN2 a b ha hb w na nb
  · rw [mul_nan (.inl na)]
    exact mulN1 a b ha hb w na
theorem krdiv {a b : Nat} (ha : a < 2 ^ 64) (hb : b < 2 ^ 64) (w : World) : Kb 40 #[wd a, wd b] w (wd (opt (Ieee.double.div a b))) := by
  cases na : nanW a
  · cases nb : nanW b
    · have la := nan_false na
      have lb := nan_false nb
      by_cases ia : rung a = infR
      · by_cases ib : rung b = infR
        · rw [div_infs ia ib]
          exact divI1 a b ha hb w na nb (infT ia) (infT ib)
        · rw [div_inf_num ia (by omega), opt_word (Nat.le_refl _), xor_bne]
          exact divI3 a b ha hb w na nb (infT ia) (infF ib) (zeroF (inf_ne ia))
      · by_cases ib : rung b = infR
        · rw [div_num_inf (by omega) ib, word_zero, xor_bne]
          by_cases za : rung a = 0
          · exact divI5 a b ha hb w na nb (infF ia) (infT ib) (zeroT za) (zeroF (inf_ne ib))
          · exact divI6 a b ha hb w na nb (infF ia) (infT ib) (zeroF za) (zeroF (inf_ne ib))
        · have fa : rung a < infR := by omega
          have fb : rung b < infR := by omega
          by_cases za : rung a = 0
          · by_cases zb : rung b = 0
            · rw [div_noughts za zb]
              exact divI2 a b ha hb w na nb (infF ia) (zeroT za) (zeroT zb)
            · rw [div_nought_num za fb zb, word_zero, xor_bne]
              exact divI7 a b ha hb w na nb (infF ia) (infF ib) (zeroT za) (zeroF zb)
          · by_cases zb : rung b = 0
            · rw [div_num_nought fa za zb, opt_word (Nat.le_refl _), xor_bne]
              exact divI4 a b ha hb w na nb (infF ia) (zeroF za) (zeroT zb)
            · obtain ⟨d1, d2⟩ := div_ref fa fb za zb
              have pa := pl_le fa
              have pb := pl_le fb
              rw [d2, xor_bne]
              exact divF a b _ _ _ _ ha hb (mg_lt _) (mg_lt _) (by omega) w na nb (infF ia) (infF ib) (zeroF za) (zeroF zb) (Nat.pos_of_ne_zero (fun h => zb (mg_zero.1 h))) d1 (fun w => kropen ha w) (fun w => kropen hb w)
    · rw [div_nan (.inr nb)]
      exact divN2 a b ha hb w na nb
  · rw [div_nan (.inl na)]
    exact divN1 a b ha hb w na
end Go.Proofs.YtoodbdjmbicaeaaGreatDoor
