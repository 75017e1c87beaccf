/- What Mod leaves: the law in plain Lean. No condition. -/
import Derived.Test.YtoodbdjmbicaeaaGreatDoorFx6
namespace Go.Proofs.YtoodbdjmbicaeaaGreatDoor
open Ieee
set_option linter.unusedVariables false
set_option linter.unusedSimpArgs false

theorem mod_ex {b : Nat} (hb : b ≤ infR) (hb0 : b ≠ 0) : ∀ (n R : Nat), val R < n → R < infR → ∃ R', val R' = val R % val b := by
  intro n
  induction n with
  | zero => intro R h; omega
  | succ n ih =>
    intro R h hR
    by_cases hle : val b ≤ val R
    · have hbi : b < infR := by
        rcases Nat.lt_or_ge b infR with h1 | h1
        · exact h1
        · have := val_lt (Nat.lt_of_lt_of_le hR h1); omega
      obtain ⟨d, T, R', _, _, _, _, _, _, hR', hlt, hm, _⟩ := mod_one hR hbi hb0 hle
      obtain ⟨R2, h2⟩ := ih R' (by omega) hR'
      exact ⟨R2, by rw [h2, hm]⟩
    · exact ⟨R, by rw [Nat.mod_eq_of_lt (by omega)]⟩
theorem modR_val {a b : Nat} (ha : a < infR) (hb : b ≤ infR) (hb0 : b ≠ 0) : val (modR a b) = val a % val b := by
  obtain ⟨R, hR⟩ := mod_ex hb hb0 (val a + 1) a (Nat.lt_succ_self _) ha
  rw [modR_of hR, hR]
theorem rest_nan {a b : Nat} (h : nanW (modW a b) = true) : modW a b = theNaN ∧ (nanW a = true ∨ nanW b = true ∨ rung a = infR ∨ rung b = 0) := by
  by_cases k : nanW a = true ∨ nanW b = true ∨ rung a = infR ∨ rung b = 0
  · exact ⟨by unfold modW; exact if_pos k, k⟩
  · have hm : modW a b = double.word (isNeg a) (modR (rung a) (rung b)) := by unfold modW; exact if_neg k
    have na : nanW a = false := by cases hh : nanW a; rfl; exact absurd (.inl hh) k
    have ia : rung a ≠ infR := fun e => k (.inr (.inr (.inl e)))
    rw [hm, nan_word (modR_lt (Nat.lt_of_le_of_ne (nan_false na) ia))] at h
    cases h
theorem nan_of_modW {a b : Nat} (h : nanW (modW a b) = false) : nanW a = false ∧ nanW b = false ∧ rung a ≠ infR ∧ rung b ≠ 0 := by
  by_cases k : nanW a = true ∨ nanW b = true ∨ rung a = infR ∨ rung b = 0
  · have : modW a b = theNaN := by unfold modW; exact if_pos k
    rw [this] at h
    exact absurd h (by decide)
  · refine ⟨?_, ?_, fun e => k (.inr (.inr (.inl e))), fun e => k (.inr (.inr (.inr e)))⟩
    · cases hh : nanW a; rfl; exact absurd (.inl hh) k
    · cases hh : nanW b; rfl; exact absurd (.inr (.inl hh)) k
theorem modW_lt {a b : Nat} : modW a b < 2 ^ 64 := by
  cases h : nanW (modW a b)
  · obtain ⟨na, nb, ia, b0⟩ := nan_of_modW h
    rw [modW_num na nb ia b0]
    exact word_lt' (Nat.lt_of_le_of_lt (modR_lt (Nat.lt_of_le_of_ne (nan_false na) ia)) infR_lt)
  · rw [(rest_nan h).1]; decide
theorem ival_absV {a : Nat} (na : nanW a = false) : ival (absV a) = (val (rung a) : Int) := by
  obtain ⟨h1, h2, h3, _⟩ := absV_eq na
  unfold ival
  rw [h3, h2]; rfl
theorem rest_law {a b : Nat} (ha : a < 2 ^ 64) (hb : b < 2 ^ 64) (h : nanW (modW a b) = false) :
    cmpK (absV (modW a b)) (absV b) = true ∧ cmpC (absV (modW a b)) (absV b) = -1 ∧ cmpK (absV (modW a b)) (absV a) = true ∧ cmpC (absV (modW a b)) (absV a) ≤ 0 ∧
    isNeg (modW a b) = isNeg a ∧ modW (modW a b) b = modW a b ∧ modW a (negV b) = modW a b := by
  obtain ⟨na, nb, ia, b0⟩ := nan_of_modW h
  have fa : rung a < infR := Nat.lt_of_le_of_ne (nan_false na) ia
  have hM := modW_num na nb ia b0
  obtain ⟨M, hMd⟩ : ∃ M, modW a b = M := ⟨_, rfl⟩
  obtain ⟨R, hRd⟩ : ∃ R, modR (rung a) (rung b) = R := ⟨_, rfl⟩
  have hRv := modR_val fa (nan_false nb) b0
  have hRl := modR_lt (b := rung b) fa
  rw [hRd] at hRv hRl hM
  rw [hMd] at h hM ⊢
  have hR63 : R < 2 ^ 63 := Nat.lt_of_le_of_lt hRl infR_lt
  have rM : rung M = R := by rw [hM, rung_word hR63]
  have sM : isNeg M = isNeg a := by rw [hM, isNeg_word hR63]
  have iM := ival_absV h
  have ib := ival_absV nb
  have iA := ival_absV na
  rw [rM] at iM
  have lt1 : val R < val (rung b) := by rw [hRv]; exact Nat.mod_lt _ (Nat.pos_of_ne_zero (val_pos b0))
  have le2 : val R ≤ val (rung a) := by rw [hRv]; exact Nat.mod_le _ _
  have hRi : R < infR := Nat.lt_of_le_of_lt (Nat.le_of_not_lt fun k => by have := val_lt k; omega) fa
  obtain ⟨_, _, _, nM'⟩ := absV_eq h
  obtain ⟨_, _, _, nb'⟩ := absV_eq nb
  obtain ⟨_, _, _, na'⟩ := absV_eq na
  obtain ⟨c1, c2⟩ := cmp_not nM' nb'
  obtain ⟨d1, d2⟩ := cmp_not nM' na'
  refine ⟨c2, ?_, d2, ?_, sM, ?_, ?_⟩
  · rw [c1, iM, ib, if_pos (by omega)]
  · rw [d1, iM, iA]
    split
    · omega
    · rw [if_neg (by omega)]
      exact Int.le_refl _
  · rw [modW_num h nb (by rw [rM]; omega) b0, rM, sM]
    have : modR R (rung b) = R := modR_of (by rw [Nat.mod_eq_of_lt lt1])
    rw [this, hM]
  · have hn : negV b = flip b := by
      unfold negV
      exact bitsW_of (nan_of (by rw [rung_flip hb]; exact nan_false nb))
    rw [hn, modW_num na (nan_of (by rw [rung_flip hb]; exact nan_false nb)) ia (by rw [rung_flip hb]; exact b0), rung_flip hb, hRd, hM]
end Go.Proofs.YtoodbdjmbicaeaaGreatDoor
