/- Bits, eight a byte, as the document packs them: plain. -/
import Derived.Test.YtepjpdhmjchakaaDoorBitsPlain
namespace Go.Proofs.YtepjpdhmjchakaaDoor.Bt

/-- The number of the k bits from i on, noughts behind the end. -/
def cv (L : List Bool) (i k : Nat) : Nat := val ((List.range k).map fun t => L.getD (i + t) false)
theorem cv_zero (L : List Bool) (i : Nat) : cv L i 0 = 0 := by simp [cv, val]
theorem cv_succ (L : List Bool) (i k : Nat) : cv L i (k + 1) = 2 * cv L i k + (L.getD (i + k) false).toNat := by
  unfold cv
  rw [List.range_succ, List.map_append, List.map_singleton, val_snoc]
theorem cv_lt (L : List Bool) (i k : Nat) : cv L i k < 2 ^ k := by
  have h := val_lt ((List.range k).map fun t => L.getD (i + t) false)
  simpa [cv] using h
theorem byte_val (y : UInt8) : val ((List.range 8).map fun t => y.toBitVec.getLsbD (7 - t)) = y.toNat := by
  have h : ∀ n : Fin 256, val ((List.range 8).map fun t => (BitVec.ofNat 8 n.val).getLsbD (7 - t)) = n.val := by decide +kernel
  have h2 := h ⟨y.toNat, y.toNat_lt⟩
  have e : BitVec.ofNat 8 y.toNat = y.toBitVec := by apply BitVec.eq_of_toNat_eq; simp
  rw [e] at h2
  exact h2
theorem cv_pack (L : List Bool) (c : Nat) (hc : c < (pack L).length) : cv L (8 * c) 8 = ((pack L)[c]).toNat := by
  rw [← byte_val]
  unfold cv
  congr 1
  apply List.map_congr_left
  intro t ht
  have ht8 : t < 8 := List.mem_range.1 ht
  rw [← pack_bit L (8 * c + t)]
  unfold mbit
  have e1 : (8 * c + t) / 8 = c := by omega
  have e2 : (8 * c + t) % 8 = t := by omega
  rw [e1, e2]
  simp [List.getD, hc]
theorem pack_take (L : List Bool) (c : Nat) (hc : c < (pack L).length) : (pack L).take (c + 1) = (pack L).take c ++ [UInt8.ofNat (cv L (8 * c) 8)] := by
  rw [List.take_succ_eq_append_getElem hc, cv_pack L c hc]
  simp
end Go.Proofs.YtepjpdhmjchakaaDoor.Bt
