/- BitsBack: the plain law. -/
import Derived.Test.YtnplcfgjidolbaaOpRow
import Derived.Test.YtnplcfgjidolbaaWBitsOne
import Derived.RegionTactic
import Derived.BigRegion
import Derived.Outline
namespace Go.Proofs.Ytnplcfgjidolbaa.bitsBack
open Go.RowKit

theorem sv_in (v : Nat) : -9223372036854775808 ≤ wrap64 (v : Int) ∧ wrap64 (v : Int) ≤ 9223372036854775807 := by unfold wrap64; omega
/-- The bits that a call puts. -/
def opBits (o : Opv) : List Bool :=
  if o.k % 4 = 0 then [decide (o.v % 2 = 1)] else if o.k % 4 = 1 then (if 0 ≤ o.n ∧ o.n ≤ 64 then Bt.nb o.v o.n.toNat else [])
  else if o.k % 4 = 2 then Bt.vb o.v else Bt.vb (zz (wrap64 (o.v : Int)))
theorem opBits_le (o : Opv) (h : o.v < 18446744073709551616) : (opBits o).length ≤ 80 := by
  unfold opBits
  have h1 := Bt.vb_le o.v h
  have h2 := Bt.vb_le (zz (wrap64 (o.v : Int))) (zz_lt _ (sv_in _).1 (sv_in _).2)
  repeat' split
  all_goals (try simp [Bt.nb_len])
  all_goals omega
def pre (l : List Opv) (i : Nat) : List Bool := (l.take i).flatMap opBits
theorem pre_succ (l : List Opv) (i : Nat) (h : i < l.length) : pre l (i + 1) = pre l i ++ opBits l[i] := by
  unfold pre
  rw [List.take_succ_eq_append_getElem h, List.flatMap_append]; simp
theorem pre_zero (l : List Opv) : pre l 0 = [] := rfl

theorem pre_split (l : List Opv) (m k : Nat) (hk : k < m) (hm : m ≤ l.length) : ∃ C, pre l m = pre l k ++ opBits (l[k]'(by omega)) ++ C := by
  refine ⟨((l.drop (k + 1)).take (m - (k + 1))).flatMap opBits, ?_⟩
  rw [← pre_succ l k (by omega)]
  unfold pre
  rw [← List.flatMap_append]
  congr 1
  rw [show m = (k + 1) + (m - (k + 1)) from by omega, List.take_add]
  congr 2
  omega
theorem split_at (l : List Opv) (m k : Nat) (hk : k < m) (hm : m ≤ l.length) : ∃ C, Bt.unpack (Bt.pack (pre l m)) = pre l k ++ opBits (l[k]'(by omega)) ++ C := by
  obtain ⟨C, h⟩ := pre_split l m k hk hm
  rw [Bt.unpack_pack]
  exact ⟨C ++ List.replicate (8 * (((pre l m).length + 7) / 8) - (pre l m).length) false, by rw [h]; simp [List.append_assoc]⟩
theorem mid_take (A B C : List Bool) : ((A ++ B ++ C).drop A.length).take B.length = B := by simp
theorem fits (l : List UInt8) (A B C : List Bool) (h : Bt.unpack l = A ++ B ++ C) : A.length + B.length ≤ 8 * l.length := by
  have := congrArg List.length h
  rw [Bt.unpack_len] at this
  simp at this
  omega
theorem bit_back (l : List UInt8) (A C : List Bool) (b : Bool) (h : Bt.unpack l = A ++ [b] ++ C) : Bt.mbit l A.length = b := by
  have h1 := fits l A [b] C h
  have h2 := Bt.unpack_get l A.length (by simp at h1; omega)
  rw [h] at h2
  simp at h2
  exact h2.symm
theorem bits_back (l : List UInt8) (A C : List Bool) (v n : Nat) (h : Bt.unpack l = A ++ Bt.nb v n ++ C) : Bt.val (((Bt.unpack l).drop A.length).take n) = v % 2 ^ n := by
  have e := mid_take A (Bt.nb v n) C
  rw [Bt.nb_len] at e
  rw [h, e, Bt.val_nb]
theorem var_back (l : List UInt8) (A C : List Bool) (v : Nat) (hv : v < 18446744073709551616) (h : Bt.unpack l = A ++ Bt.vb v ++ C) : Bt.rv (Bt.unpack l) A.length = .inr (v, A.length + (Bt.vb v).length) := by
  rw [h]; exact Bt.rv_back A C v hv
theorem mask_and (v n : Nat) (hn : n ≤ 64) : bits .and .u64 (v : Int) (IntKind.u64.wrap (IntKind.u64.wrap (2 ^ n) - 1)) = ((v % 2 ^ n % 18446744073709551616 : Nat) : Int) := by
  have h1 : IntKind.u64.wrap (IntKind.u64.wrap ((2 : Int) ^ n) - 1) = ((2 ^ n - 1 : Nat) : Int) := by
    have hp : 0 < 2 ^ n := Nat.two_pow_pos n
    have hc : ((2 : Int) ^ n) = ((2 ^ n : Nat) : Int) := by push_cast; rfl
    rw [hc]
    rcases Nat.lt_or_ge n 64 with h | h
    · have : 2 ^ n ≤ 2 ^ 63 := Nat.pow_le_pow_right (by omega) (by omega)
      rw [IntWalk.u64_in ((2 ^ n : Nat) : Int) (by omega), IntWalk.u64_in (((2 ^ n : Nat) : Int) - 1) (by omega)]
      omega
    · obtain rfl : n = 64 := by omega
      decide
  rw [h1]
  show IntKind.u64.wrap ((BitVec.ofInt 64 (v : Int) &&& BitVec.ofInt 64 ((2 ^ n - 1 : Nat) : Int)).toNat : Int) = _
  have hlt : 2 ^ n - 1 < 2 ^ 64 := by
    have : 2 ^ n ≤ 2 ^ 64 := Nat.pow_le_pow_right (by omega) hn
    have := Nat.two_pow_pos n
    omega
  rw [BitVec.ofInt_natCast, BitVec.ofInt_natCast, BitVec.toNat_and, BitVec.toNat_ofNat, BitVec.toNat_ofNat, Nat.mod_eq_of_lt hlt, Nat.and_two_pow_sub_one_eq_mod]
  have hd : v % 2 ^ 64 % 2 ^ n = v % 2 ^ n := Nat.mod_mod_of_dvd _ (Nat.pow_dvd_pow 2 hn)
  have hl : v % 2 ^ n < 2 ^ 64 := Nat.lt_of_lt_of_le (Nat.mod_lt _ (Nat.two_pow_pos n)) (Nat.pow_le_pow_right (by omega) hn)
  rw [hd, IntWalk.u64_in _ (by omega), Nat.mod_eq_of_lt hl]
end Go.Proofs.Ytnplcfgjidolbaa.bitsBack
