/- The total order of words, and how it goes with the comparison. No condition. -/
import Derived.Test.YtoodbdjmbicaeaaRing
namespace Go.Proofs.Ytoodbdjmbicaeaa
open Ieee

/-- The comparison: the first part. -/
def cmpC (a b : Nat) : Int := match double.order a b with | some .lt => -1 | some .gt => 1 | _ => 0
/-- The comparison: is there one? -/
def cmpK (a b : Nat) : Bool := (double.order a b).isSome
def plP (a : Nat) : Int := if nanW a then 0 else if isNeg a then 1 else 2
def plX (a : Nat) : Nat := if nanW a then a else if isNeg a then 2 ^ 64 - 1 - a else a
def ordV (a b : Nat) : Int := if plP a < plP b ∨ (plP a = plP b ∧ plX a < plX b) then -1 else if plP b < plP a ∨ plX b < plX a then 1 else 0
def key (a : Nat) : Int := plP a * 2 ^ 64 + plX a

theorem key_cases {a : Nat} (ha : a < 2 ^ 64) : (nanW a = true ∧ plP a = 0 ∧ plX a = a) ∨ (nanW a = false ∧ 2 ^ 63 ≤ a ∧ plP a = 1 ∧ plX a = 2 ^ 64 - 1 - a) ∨ (nanW a = false ∧ a < 2 ^ 63 ∧ plP a = 2 ∧ plX a = a) := by
  unfold plP plX
  cases hn : nanW a
  · right
    rw [isNeg_iff ha]
    by_cases h : 2 ^ 63 ≤ a
    · left; rw [decide_eq_true h]; exact ⟨rfl, h, rfl, rfl⟩
    · right; rw [decide_eq_false h]; exact ⟨rfl, by omega, rfl, rfl⟩
  · exact .inl ⟨rfl, rfl, rfl⟩
theorem ordV_key {a b : Nat} (ha : a < 2 ^ 64) (hb : b < 2 ^ 64) : ordV a b = if key a < key b then -1 else if key b < key a then 1 else 0 := by
  unfold ordV key
  have ka := key_cases ha
  have kb := key_cases hb
  have xa : plX a < 2 ^ 64 := by omega
  have xb : plX b < 2 ^ 64 := by omega
  have pa : plP a = 0 ∨ plP a = 1 ∨ plP a = 2 := by omega
  have pb : plP b = 0 ∨ plP b = 1 ∨ plP b = 2 := by omega
  have h1 : (plP a < plP b ∨ (plP a = plP b ∧ plX a < plX b)) ↔ plP a * 2 ^ 64 + (plX a : Int) < plP b * 2 ^ 64 + (plX b : Int) := by omega
  by_cases h : plP a < plP b ∨ (plP a = plP b ∧ plX a < plX b)
  · rw [if_pos h, if_pos (h1.1 h)]
  · rw [if_neg h, if_neg (fun k => h (h1.2 k))]
    have h2 : (plP b < plP a ∨ plX b < plX a) ↔ plP b * 2 ^ 64 + (plX b : Int) < plP a * 2 ^ 64 + (plX a : Int) := by omega
    simp only [h2]
theorem key_inj {a b : Nat} (ha : a < 2 ^ 64) (hb : b < 2 ^ 64) (h : key a = key b) : a = b := by
  unfold key at h
  rcases key_cases ha with ⟨n1, e1, f1⟩ | ⟨n1, l1, e1, f1⟩ | ⟨n1, l1, e1, f1⟩ <;>
  rcases key_cases hb with ⟨n2, e2, f2⟩ | ⟨n2, l2, e2, f2⟩ | ⟨n2, l2, e2, f2⟩ <;> rw [e1, e2, f1, f2] at h <;> omega
theorem ival_key {a b : Nat} (ha : a < 2 ^ 64) (hb : b < 2 ^ 64) (na : nanW a = false) (nb : nanW b = false) (h : ival a < ival b) : key a < key b := by
  have ia := ival_abs a
  have ib := ival_abs b
  rw [isNeg_iff ha] at ia
  rw [isNeg_iff hb] at ib
  have hv : val (rung a) < val (rung b) → rung a < rung b := fun h => val_lt_iff.1 h
  have hv' : val (rung b) < val (rung a) → rung b < rung a := fun h => val_lt_iff.1 h
  unfold key
  rcases key_cases ha with ⟨n1, e1, f1⟩ | ⟨n1, l1, e1, f1⟩ | ⟨n1, l1, e1, f1⟩
  · rw [na] at n1; cases n1
  · rcases key_cases hb with ⟨n2, e2, f2⟩ | ⟨n2, l2, e2, f2⟩ | ⟨n2, l2, e2, f2⟩
    · rw [nb] at n2; cases n2
    · have ja : ival a = -(val (rung a) : Int) := by rcases ia with ⟨_, g⟩ | ⟨g, _⟩; (have := of_decide_eq_false g; omega); exact g
      have jb : ival b = -(val (rung b) : Int) := by rcases ib with ⟨_, g⟩ | ⟨g, _⟩; (have := of_decide_eq_false g; omega); exact g
      have := hv' (by omega)
      rw [e1, e2, f1, f2]
      unfold rung at this
      omega
    · rw [e1, e2, f1, f2]; omega
  · have ja : ival a = (val (rung a) : Int) := by rcases ia with ⟨g, _⟩ | ⟨_, g⟩; exact g; (have := of_decide_eq_true g; omega)
    rcases key_cases hb with ⟨n2, e2, f2⟩ | ⟨n2, l2, e2, f2⟩ | ⟨n2, l2, e2, f2⟩
    · rw [nb] at n2; cases n2
    · have jb : ival b = -(val (rung b) : Int) := by rcases ib with ⟨_, g⟩ | ⟨g, _⟩; (have := of_decide_eq_false g; omega); exact g
      omega
    · have jb : ival b = (val (rung b) : Int) := by rcases ib with ⟨g, _⟩ | ⟨_, g⟩; exact g; (have := of_decide_eq_true g; omega)
      have := hv (by omega)
      rw [e1, e2, f1, f2]
      unfold rung at this
      omega
theorem cmp_not {a b : Nat} (na : nanW a = false) (nb : nanW b = false) : cmpC a b = (if ival a < ival b then -1 else if ival b < ival a then 1 else 0) ∧ cmpK a b = true := by
  unfold cmpC cmpK
  rw [order_eq (nan_false na) (nan_false nb)]
  refine ⟨?_, rfl⟩
  show (match some (compareOfLessAndEq (ival a) (ival b)) with | some .lt => (-1 : Int) | some .gt => 1 | _ => 0) = _
  unfold compareOfLessAndEq
  by_cases h1 : ival a < ival b
  · rw [if_pos h1, if_pos h1]
  · rw [if_neg h1, if_neg h1]
    by_cases h2 : ival a = ival b
    · rw [if_pos h2, if_neg (by omega)]
    · rw [if_neg h2, if_pos (by omega)]
theorem cmp_nan {a b : Nat} (h : nanW a = true ∨ nanW b = true) : cmpC a b = 0 ∧ cmpK a b = false := by
  unfold cmpC cmpK
  rw [order_nan (h.imp of_decide_eq_true of_decide_eq_true)]
  exact ⟨rfl, rfl⟩

/-- The law NumOrder. -/
theorem order_law {a b c : Nat} (ha : a < 2 ^ 64) (hb : b < 2 ^ 64) (hc : c < 2 ^ 64) :
    ordV b a = -ordV a b ∧ (ordV a b = 0 ↔ a = b) ∧ ordV a a = 0 ∧ -1 ≤ ordV a b ∧ ordV a b ≤ 1 ∧
    (ordV a b > 0 ∨ ordV b c > 0 ∨ (ordV a c ≤ 0 ∧ ((ordV a b = 0 ∧ ordV b c = 0) ∨ ordV a c < 0))) ∧
    cmpK a b = (!nanW a && !nanW b) ∧ (cmpC a b = 0 ∨ cmpC a b = ordV a b) ∧ (nanW a = true → nanW b = false → ordV a b < 0) := by
  have hab := fun h => key_inj ha hb h
  have hkk : a = b → key a = key b := fun h => by rw [h]
  rw [ordV_key ha hb, ordV_key hb ha, ordV_key ha ha, ordV_key hb hc, ordV_key ha hc]
  refine ⟨by split <;> split <;> omega, ?_, by rw [if_neg (by omega), if_neg (by omega)], by split; omega; split <;> omega, by split; omega; split <;> omega, ?_, ?_, ?_, ?_⟩
  · constructor
    · intro h
      apply hab
      by_cases h1 : key a < key b
      · rw [if_pos h1] at h; omega
      · by_cases h2 : key b < key a
        · rw [if_neg h1, if_pos h2] at h; omega
        · omega
    · intro h
      have := hkk h
      rw [if_neg (by omega), if_neg (by omega)]
  · by_cases h1 : key b < key a
    · left; rw [if_neg (by omega), if_pos h1]; omega
    · right
      by_cases h2 : key c < key b
      · left; rw [if_neg (by omega), if_pos h2]; omega
      · right
        by_cases h3 : key a < key c
        · rw [if_pos h3]; exact ⟨by omega, .inr (by omega)⟩
        · have e1 : key a = key b := by omega
          have e2 : key b = key c := by omega
          rw [if_neg (by omega), if_neg (by omega), if_neg (by omega), if_neg (by omega), if_neg (by omega), if_neg (by omega)]
          exact ⟨by omega, .inl ⟨rfl, rfl⟩⟩
  · cases na : nanW a
    · cases nb : nanW b
      · exact (cmp_not na nb).2
      · exact (cmp_nan (.inr nb)).2
    · rw [(cmp_nan (.inl na)).2]; rfl
  · cases na : nanW a
    · cases nb : nanW b
      · rw [(cmp_not na nb).1]
        by_cases h1 : ival a < ival b
        · right; rw [if_pos h1, if_pos (ival_key ha hb na nb h1)]
        · rw [if_neg h1]
          by_cases h2 : ival b < ival a
          · have := ival_key hb ha nb na h2
            right; rw [if_pos h2, if_neg (by omega), if_pos this]
          · left; rw [if_neg h2]
      · left; exact (cmp_nan (.inr nb)).1
    · left; exact (cmp_nan (.inl na)).1
  · intro na nb
    have : key a < key b := by
      unfold key
      rcases key_cases ha with ⟨n1, e1, f1⟩ | ⟨n1, l1, e1, f1⟩ | ⟨n1, l1, e1, f1⟩
      · rcases key_cases hb with ⟨n2, e2, f2⟩ | ⟨n2, l2, e2, f2⟩ | ⟨n2, l2, e2, f2⟩
        · rw [nb] at n2; cases n2
        · rw [e1, e2, f1, f2]; omega
        · rw [e1, e2, f1, f2]; omega
      · rw [na] at n1; cases n1
      · rw [na] at n1; cases n1
    rw [if_pos this]
    omega
end Go.Proofs.Ytoodbdjmbicaeaa
