/- Products and quotients at the edges. No condition. -/
import Derived.Test.YtoodbdjmbicaeaaRef
namespace Go.Proofs.Ytoodbdjmbicaeaa
open Ieee

theorem mg_zero {r : Nat} : mg r = 0 ↔ r = 0 := by
  unfold mg
  split
  · rfl
  · constructor <;> intro h <;> omega
theorem xor_bne (x y : Bool) : (x ^^ y) = (x != y) := by cases x <;> cases y <;> rfl
theorem div_nan {a b : Nat} (h : nanW a = true ∨ nanW b = true) : double.div a b = none := by
  unfold Format.div
  rcases h with h | h
  · rw [read_nan h]; rfl
  · rw [read_nan h]; cases double.read a <;> rfl
theorem div_infs {a b : Nat} (ha : rung a = infR) (hb : rung b = infR) : double.div a b = none := by
  unfold Format.div
  rw [read_inf ha, read_inf hb]
  rfl
theorem div_inf_num {a b : Nat} (ha : rung a = infR) (hb : rung b < infR) : double.div a b = some (double.word (isNeg a ^^ isNeg b) infR) := by
  unfold Format.div
  rw [read_inf ha, read_num hb]
  show some (double.write _) = _
  rw [write_inf]
theorem div_num_inf {a b : Nat} (ha : rung a < infR) (hb : rung b = infR) : double.div a b = some (double.word (isNeg a ^^ isNeg b) 0) := by
  unfold Format.div
  rw [read_inf hb, read_num ha]
  show some (double.write (.number _ 0 0)) = _
  rw [write_num]
  have : rnd 0 0 = 0 := by unfold rnd; rw [if_pos rfl]
  rw [this, Nat.zero_min]
theorem div_noughts {a b : Nat} (ha : rung a = 0) (hb : rung b = 0) : double.div a b = none := by
  unfold Format.div
  rw [read_num (by rw [ha]; decide), read_num (by rw [hb]; decide), ha, hb]
  rfl
theorem quotient_nought (s t : Bool) (m d : Nat) (i j : Int) : Datum.quotient d (.number s m i) (.number t 0 j) = if m = 0 then none else some (.infinity (s ^^ t)) := by
  simp only [Datum.quotient, if_true]
theorem div_num_nought {a b : Nat} (ha : rung a < infR) (ha0 : rung a ≠ 0) (hb : rung b = 0) : double.div a b = some (double.word (isNeg a ^^ isNeg b) infR) := by
  unfold Format.div
  rw [read_num ha, read_num (by rw [hb]; decide), hb]
  have hm : mg (rung a) ≠ 0 := fun h => ha0 (mg_zero.1 h)
  rw [show mg 0 = 0 by decide, quotient_nought, if_neg hm]
  show some _ = _
  rw [write_inf]
theorem div_nought_num {a b : Nat} (ha : rung a = 0) (hb : rung b < infR) (hb0 : rung b ≠ 0) : double.div a b = some (double.word (isNeg a ^^ isNeg b) 0) := by
  unfold Format.div
  rw [read_num (by rw [ha]; decide), read_num hb, ha]
  have hm : mg (rung b) ≠ 0 := fun h => hb0 (mg_zero.1 h)
  obtain ⟨n, hn⟩ : ∃ n, mg (rung b) = n := ⟨_, rfl⟩
  rw [hn] at hm ⊢
  have hq := quotient_num (isNeg a) (isNeg b) 0 n 54 (-1074 + (pl 0 : Int)) (-1074 + (pl (rung b) : Int)) hm
  obtain ⟨more, hmore⟩ : ∃ more, 54 + n.log2 - (0 : Nat).log2 = more := ⟨_, rfl⟩
  rw [hmore, Nat.zero_shiftLeft, Nat.zero_div, Nat.zero_mod] at hq
  have hq2 : Datum.quotient (double.fractionBits + 2) (.number (isNeg a) (mg 0) (-1074 + (pl 0 : Int))) (.number (isNeg b) n (-1074 + (pl (rung b) : Int))) = some (.number (isNeg a ^^ isNeg b) 0 (-1074 + (pl 0 : Int) - (-1074 + (pl (rung b) : Int)) - (more : Nat) - 1)) := hq
  rw [hq2]
  show some (double.write (.number _ 0 _)) = _
  rw [write_num]
  have : ∀ p, rnd 0 p = 0 := fun p => by unfold rnd; rw [if_pos rfl]
  rw [this, Nat.zero_min]
theorem word_zero (s : Bool) : opt (some (double.word s 0)) = double.word s 0 := opt_word (Nat.zero_le _)
theorem roundW_zero (s : Bool) (e : Int) : roundW s 0 e false = double.word s 0 := by
  rw [roundW_plain]
  have : rnd 0 e = 0 := by unfold rnd; rw [if_pos rfl]
  rw [this, Nat.zero_min]
end Go.Proofs.Ytoodbdjmbicaeaa
