/- Words of 32 bits and bytes as the walk's integers, behind names that its simp does not open. No condition. -/
import Derived.WalkKit
import Derived.WalkSpells
import Derived.WalkLawsBesides
import Derived.Laws.BitsAllLaws
namespace Go.Proofs.YtepjpdhmjchakaaDoor
open Go.RowKit

/-- A word of 32 bits as an integer. -/
def W32 (x : BitVec 32) : Int := x.toNat
/-- A byte as an integer. -/
def W8 (x : UInt8) : Int := x.toNat

theorem W32_def (x : BitVec 32) : W32 x = (x.toNat : Int) := rfl
theorem W8_def (x : UInt8) : W8 x = (x.toNat : Int) := rfl
theorem W32_lt (x : BitVec 32) : 0 ≤ W32 x ∧ W32 x < 4294967296 := by have := x.isLt; unfold W32; omega
theorem W8_lt (x : UInt8) : 0 ≤ W8 x ∧ W8 x < 256 := by have := x.toNat_lt; unfold W8; omega
theorem W32_inj {x y : BitVec 32} (h : W32 x = W32 y) : x = y := by unfold W32 at h; exact BitVec.eq_of_toNat_eq (by omega)
theorem W8_inj {x y : UInt8} (h : W8 x = W8 y) : x = y := by unfold W8 at h; exact UInt8.toNat_inj.1 (by omega)
theorem W32_wf (x : BitVec 32) : (Lit.int .u32 (W32 x)).wf = true := by have := W32_lt x; exact WalkArith.wf_u32 (by omega)
theorem W8_wf (x : UInt8) : (Lit.int .u8 (W8 x)).wf = true := by have := W8_lt x; exact WalkArith.wf_u8 (by omega)

theorem W32_ofInt (x : BitVec 32) : BitVec.ofInt 32 (W32 x) = x := by unfold W32; rw [BitVec.ofInt_natCast, BitVec.ofNat_toNat, BitVec.setWidth_eq]
theorem W8_ofInt32 (x : UInt8) : BitVec.ofInt 32 (W8 x) = x.toBitVec.setWidth 32 := by
  unfold W8; rw [BitVec.ofInt_natCast]; apply BitVec.eq_of_toNat_eq; simp
theorem lit_ofInt32 (n : Nat) : BitVec.ofInt 32 (@OfNat.ofNat Int n _) = BitVec.ofNat 32 n := BitVec.ofInt_natCast 32 n
theorem wrap_toNat32 (x : BitVec 32) : IntKind.u32.wrap (x.toNat : Int) = W32 x := by
  have := x.isLt; unfold W32; rw [IntKind.wrap_u32']; omega

theorem W32_xor (x y : BitVec 32) : bits .xor .u32 (W32 x) (W32 y) = W32 (x ^^^ y) := by
  show IntKind.u32.wrap ((BitVec.ofInt 32 (W32 x) ^^^ BitVec.ofInt 32 (W32 y)).toNat : Int) = _
  rw [W32_ofInt, W32_ofInt, wrap_toNat32]
theorem W32_and (x y : BitVec 32) : bits .and .u32 (W32 x) (W32 y) = W32 (x &&& y) := by
  show IntKind.u32.wrap ((BitVec.ofInt 32 (W32 x) &&& BitVec.ofInt 32 (W32 y)).toNat : Int) = _
  rw [W32_ofInt, W32_ofInt, wrap_toNat32]
theorem W32_or (x y : BitVec 32) : bits .or .u32 (W32 x) (W32 y) = W32 (x ||| y) := by
  show IntKind.u32.wrap ((BitVec.ofInt 32 (W32 x) ||| BitVec.ofInt 32 (W32 y)).toNat : Int) = _
  rw [W32_ofInt, W32_ofInt, wrap_toNat32]
theorem W32_xor8 (x : BitVec 32) (y : UInt8) : bits .xor .u32 (W32 x) (W8 y) = W32 (x ^^^ y.toBitVec.setWidth 32) := by
  show IntKind.u32.wrap ((BitVec.ofInt 32 (W32 x) ^^^ BitVec.ofInt 32 (W8 y)).toNat : Int) = _
  rw [W32_ofInt, W8_ofInt32, wrap_toNat32]
theorem W32_xor_lit (x : BitVec 32) (n : Nat) : bits .xor .u32 (W32 x) (no_index (@OfNat.ofNat Int n _)) = W32 (x ^^^ BitVec.ofNat 32 n) := by
  show IntKind.u32.wrap ((BitVec.ofInt 32 (W32 x) ^^^ BitVec.ofInt 32 (@OfNat.ofNat Int n _)).toNat : Int) = _
  rw [W32_ofInt, lit_ofInt32, wrap_toNat32]
theorem W32_and_lit (x : BitVec 32) (n : Nat) : bits .and .u32 (W32 x) (no_index (@OfNat.ofNat Int n _)) = W32 (x &&& BitVec.ofNat 32 n) := by
  show IntKind.u32.wrap ((BitVec.ofInt 32 (W32 x) &&& BitVec.ofInt 32 (@OfNat.ofNat Int n _)).toNat : Int) = _
  rw [W32_ofInt, lit_ofInt32, wrap_toNat32]
theorem W32_not (x : BitVec 32) : bits .xor .u32 IntKind.u32.max (W32 x) = W32 (~~~x) := by
  rw [show IntKind.u32.max = W32 (BitVec.allOnes 32) from by decide, W32_xor, BitVec.allOnes_xor]
theorem W32_shr (x : BitVec 32) (yk : IntKind) (n : Nat) (h : n ≤ 32) : Op.shift .shr .u32 (W32 x) yk (no_index (@OfNat.ofNat Int n _)) = pure (.int .u32 (W32 (x >>> n))) := by
  have e : (@OfNat.ofNat Int n _ : Int) = (n : Int) := rfl
  rw [shift_shr .u32 yk _ _ (by rw [e]; omega) (by rw [e]; simp [IntKind.bits]; omega), e]
  congr 2
  unfold W32
  rw [BitVec.toNat_ushiftRight, Nat.shiftRight_eq_div_pow, Int.toNat_natCast]
  rw [Int.natCast_ediv, Int.natCast_pow]; rfl
theorem W8_ofInt (x : UInt8) : BitVec.ofInt 8 (W8 x) = x.toBitVec := by unfold W8; rw [BitVec.ofInt_natCast]; apply BitVec.eq_of_toNat_eq; simp
theorem W8_xor (x y : UInt8) : bits .xor .u8 (W8 x) (W8 y) = W8 (x ^^^ y) := by
  show IntKind.u8.wrap ((BitVec.ofInt 8 (W8 x) ^^^ BitVec.ofInt 8 (W8 y)).toNat : Int) = _
  rw [W8_ofInt, W8_ofInt, IntKind.wrap_u8', ← UInt8.toBitVec_xor]
  have := (x ^^^ y).toNat_lt
  show (((x ^^^ y).toNat : Int) % 256) = ((x ^^^ y).toNat : Int)
  omega
attribute [go_sem] W8_xor
attribute [go_sem] W32_xor W32_and W32_or W32_xor8 W32_xor_lit W32_and_lit W32_not
attribute [go_sem high] W32_shr
end Go.Proofs.YtepjpdhmjchakaaDoor
