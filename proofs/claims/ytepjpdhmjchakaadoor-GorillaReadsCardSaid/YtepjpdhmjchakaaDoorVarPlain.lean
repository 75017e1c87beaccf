/- Numbers in groups of seven, read: plain Lean. -/
import Derived.Test.YtepjpdhmjchakaaDoorBitsPlain
namespace Go.Proofs.YtepjpdhmjchakaaDoor.Bt

/-- From the bit at_ on, group i on: an error's number, or the number and where it ends. -/
def rvg (U : List Bool) : Nat → Nat → Nat → Nat → Nat ⊕ (Nat × Nat)
  | 0, _, _, _ => .inl 21
  | f + 1, i, at_, acc =>
    if U.length < at_ + 8 then .inl 20
    else if i = 9 ∧ 1 < val ((U.drop at_).take 8) then .inl 21
    else if val ((U.drop at_).take 8) < 128 then (if 0 < i ∧ val ((U.drop at_).take 8) = 0 then .inl 21 else .inr (acc + val ((U.drop at_).take 8) % 128 * 128 ^ i, at_ + 8))
    else rvg U f (i + 1) (at_ + 8) (acc + val ((U.drop at_).take 8) % 128 * 128 ^ i)
def rv (U : List Bool) (at_ : Nat) : Nat ⊕ (Nat × Nat) := rvg U 10 0 at_ 0
end Go.Proofs.YtepjpdhmjchakaaDoor.Bt
