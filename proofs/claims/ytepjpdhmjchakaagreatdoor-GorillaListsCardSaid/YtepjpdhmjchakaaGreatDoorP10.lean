import Derived.Test.YtepjpdhmjchakaaGreatDoorP9
/- An appender's number, whole; Append. -/
namespace Go.Proofs.YtepjpdhmjchakaaGreatDoor
open Go.RowKit
set_option linter.unusedVariables false

theorem div_cast (x b : Nat) : (x : Int) / 2 ^ b = ((x / 2 ^ b : Nat) : Int) := by
  rw [Int.natCast_ediv, Int.natCast_pow]
  rfl
/-- A number is told. -/
theorem number_any {w : World} {P B : Nat} {r : Option Nat} {L : List Bool} {f t : Int} {v step n : Nat} {win : Option (Nat × Nat)} (h : Am w P B r L f t v step n win) (hwin : ∀ p q, win = some (p, q) → p ≤ 31 ∧ p + q ≤ 63) (x : Nat) (hx : x < 18446744073709551616) (hT : TabW w) (h1P : 1 ≠ P) (h1B : 1 ≠ B) (h1r : r ≠ some 1) (hL : L.length < 1099511000000) :
    Calls Tryz.prog 71 #[.pointer (some ⟨P, 0, none⟩), .int .u64 (x : Int)] w fun e w' => e = .returned (.tuple #[]) ∧ ∃ r', Am w' P B r' (L ++ (Gz.numE win x).1) f t v step n (Gz.numE win x).2 ∧ Ga P B r w w' ∧ Anew w r r' := by
  by_cases h0 : x = 0
  · subst h0
    unfold Gz.numE
    rw [if_pos rfl]
    exact num_zero h hL
  have hp : 0 < x := by omega
  have HK : ∀ w, Calls Tryz.prog 90 #[.int .u64 (x : Int)] w fun e w' => e = .returned (.int .i64 ((63 - Nat.log2 x : Nat) : Int)) ∧ w = w' := fun w => lead_any x hp hx w
  have HQ : ∀ w, TabW w → Calls Tryz.prog 91 #[.int .u64 (x : Int)] w fun e w' => e = .returned (.int .i64 ((Gz.tz x : Nat) : Int)) ∧ w = w' := fun w hw => trail_any x hp hx w hw
  have hs := Gz.both_le x h0 hx
  obtain ⟨k, hk⟩ : ∃ k, k = 63 - Nat.log2 x := ⟨_, rfl⟩
  have hz : Gz.lz x = min 31 k := by rw [hk]; rfl
  rw [← hk] at HK
  obtain ⟨q, hq⟩ : ∃ q, q = Gz.tz x := ⟨_, rfl⟩
  rw [← hq] at HQ hs
  have hnew : ∀ z, Gz.lz x = z → x / 2 ^ q < 2 ^ (64 - z - q) := fun z e => by
    have := (Gz.fit_lt x (Gz.lz x) (Gz.tz x) h0 hx (Nat.le_refl _) (Nat.le_refl _)).1
    rw [e, ← hq] at this
    exact this
  unfold Gz.numE
  rw [if_neg h0]
  by_cases hk31 : k < 31
  · have ez : Gz.lz x = k := by omega
    rw [ez] at hs
    cases win with
    | none =>
      dsimp only
      rw [ez, ← hq]
      exact (num_none_a h x k q _ HK HQ (by omega) (by omega) (div_cast x q) (hnew k ez) hp hx hT h1P h1B h1r hL).mono fun e w' ⟨e1, r', e2, e3, e4⟩ => ⟨e1, r', by simpa [List.append_assoc] using e2, e3, e4⟩
    | some p =>
      obtain ⟨a, b⟩ := p
      obtain ⟨w1, w2⟩ := hwin a b rfl
      dsimp only
      by_cases hf : a ≤ Gz.lz x ∧ b ≤ Gz.tz x
      · rw [if_pos hf]
        obtain ⟨f1, f2⟩ := Gz.fit_lt x a b h0 hx hf.1 hf.2
        exact (num_fit_a h x k q _ HK HQ (by omega) (by omega) (by omega) (by omega) (by omega) (div_cast x b) f1 hp hx hT h1P h1B h1r hL).mono fun e w' ⟨e1, r', e2, e3, e4⟩ => ⟨e1, r', by simpa [List.append_assoc] using e2, e3, e4⟩
      · rw [if_neg hf, ez, ← hq]
        by_cases ha : a ≤ k
        · exact (num_ur_a h x k q _ HK HQ (by omega) (by omega) (by omega) (by omega) (div_cast x q) (hnew k ez) hp hx hT h1P h1B h1r hL).mono fun e w' ⟨e1, r', e2, e3, e4⟩ => ⟨e1, r', by simpa [List.append_assoc] using e2, e3, e4⟩
        · exact (num_ul_a h x k q _ HK HQ (by omega) (by omega) (by omega) (div_cast x q) (hnew k ez) hp hx hT h1P h1B h1r hL).mono fun e w' ⟨e1, r', e2, e3, e4⟩ => ⟨e1, r', by simpa [List.append_assoc] using e2, e3, e4⟩
  · have ez : Gz.lz x = 31 := by omega
    rw [ez] at hs
    cases win with
    | none =>
      dsimp only
      rw [ez, ← hq]
      exact (num_none_b h x k q _ HK HQ (by omega) (by omega) (div_cast x q) (hnew 31 ez) hp hx hT h1P h1B h1r hL).mono fun e w' ⟨e1, r', e2, e3, e4⟩ => ⟨e1, r', by simpa [List.append_assoc] using e2, e3, e4⟩
    | some p =>
      obtain ⟨a, b⟩ := p
      obtain ⟨w1, w2⟩ := hwin a b rfl
      dsimp only
      by_cases hf : a ≤ Gz.lz x ∧ b ≤ Gz.tz x
      · rw [if_pos hf]
        obtain ⟨f1, f2⟩ := Gz.fit_lt x a b h0 hx hf.1 hf.2
        exact (num_fit_b h x k q _ HK HQ (by omega) (by omega) (by omega) (by omega) (by omega) (div_cast x b) f1 hp hx hT h1P h1B h1r hL).mono fun e w' ⟨e1, r', e2, e3, e4⟩ => ⟨e1, r', by simpa [List.append_assoc] using e2, e3, e4⟩
      · rw [if_neg hf, ez, ← hq]
        by_cases ha : a ≤ 31
        · exact (num_ur_b h x k q _ HK HQ (by omega) (by omega) (by omega) (by omega) (div_cast x q) (hnew 31 ez) hp hx hT h1P h1B h1r hL).mono fun e w' ⟨e1, r', e2, e3, e4⟩ => ⟨e1, r', by simpa [List.append_assoc] using e2, e3, e4⟩
        · exact (num_ul_b h x k q _ HK HQ (by omega) (by omega) (by omega) (div_cast x q) (hnew 31 ez) hp hx hT h1P h1B h1r hL).mono fun e w' ⟨e1, r', e2, e3, e4⟩ => ⟨e1, r', by simpa [List.append_assoc] using e2, e3, e4⟩
end Go.Proofs.YtepjpdhmjchakaaGreatDoor
