/- NumRest: the walk. -/
import Derived.Test.YtoodbdjmbicaeaaRest
namespace Go.Proofs.Ytoodbdjmbicaeaa.numRest
open Go.RowKit
set_option maxRecDepth 8000
set_option maxHeartbeats 1000000
set_option linter.unusedVariables false

theorem of_wf64 {z : Int} (h : (Lit.int .u64 z).wf = true) : ∃ n : Nat, z = (n : Int) ∧ n < 2 ^ 64 := by
  have h1 : 0 ≤ z ∧ z ≤ 18446744073709551615 := by
    have := h; simp [Lit.wf, IntKind.min, IntKind.max, IntKind.signed, IntKind.bits] at this; omega
  exact ⟨z.toNat, by omega, by omega⟩

theorem bad (a b M : Nat) (ha : a < 2 ^ 64) (hb : b < 2 ^ 64) (w : World) (K : Hid (∀ w, Kn 51 #[wd a, wd b] w (wd M))) (h : nanW M = true) (hM : (M : Int) = 9221120237041090561)
    (hc : nanW a = true ∨ (nanW a = false ∧ nanW b = true) ∨ (nanW a = false ∧ nanW b = false ∧ isInfW a = true) ∨ (nanW a = false ∧ nanW b = false ∧ isInfW a = false ∧ cmpK b 0 = true ∧ cmpC b 0 = 0)) :
    Kn 10 #[wd a, wd b] w (.bool true) := by
  rcases hc with na | ⟨na, nb⟩ | ⟨na, nb, ia⟩ | ⟨na, nb, ia, k1, k2⟩
  all_goals
    go_enter Try.func10, Try.ntmps10
    go_wp2_with (first
      | (go_at_call 51; refine (K.out _).mono ?_; rintro e wk ⟨rfl, nk, rfl⟩)
      | (go_at_call 13; refine (kknown _).mono ?_; rintro e wk ⟨rfl, nk, rfl⟩)
      | (go_at_call 20; refine (kisnan _ _).mono ?_; rintro e wk ⟨rfl, rfl⟩)
      | (go_at_call 24; refine (kisinf (by assumption) _).mono ?_; rintro e wk ⟨rfl, rfl⟩)
      | (go_at_call 21; refine (knan _).mono ?_; rintro e wk ⟨rfl, rfl⟩)
      | (go_at_call 12; refine (kcmp b 0 _).mono ?_; rintro e wk ⟨rfl, rfl⟩))
    go_ret
    exact ⟨rfl, _, rfl⟩

theorem good (a b M : Nat) (ha : a < 2 ^ 64) (hb : b < 2 ^ 64) (hM : M < 2 ^ 64) (w : World) (K : Hid (∀ w, Kn 51 #[wd a, wd b] w (wd M))) (K2 : Hid (∀ w, Kn 51 #[wd M, wd b] w (wd M))) (K3 : Hid (∀ w, Kn 51 #[wd a, wd (negV b)] w (wd M)))
    (h : nanW M = false) (c1 : cmpK (absV M) (absV b) = true) (c2 : cmpC (absV M) (absV b) = -1) (c3 : cmpK (absV M) (absV a) = true) (c4 : cmpC (absV M) (absV a) ≤ 0) (hs : M / 2 ^ 63 = a / 2 ^ 63) :
    Kn 10 #[wd a, wd b] w (.bool true) := by
  go_enter Try.func10, Try.ntmps10
  go_wp2_with (first
    | (go_at_call 51; have tk3 := tk2; refine (K3.out _).mono ?_; rintro e wk ⟨rfl, nk, rfl⟩)
    | (go_at_call 51; have tk2 := tk1; refine (K2.out _).mono ?_; rintro e wk ⟨rfl, nk, rfl⟩)
    | (go_at_call 51; have tk1 := True.intro; refine (K.out _).mono ?_; rintro e wk ⟨rfl, nk, rfl⟩)
    | (go_at_call 13; refine (kknown _).mono ?_; rintro e wk ⟨rfl, nk, rfl⟩)
    | (go_at_call 20; refine (kisnan _ _).mono ?_; rintro e wk ⟨rfl, rfl⟩)
    | (go_at_call 17; refine (kabs (by assumption) _).mono ?_; rintro e wk ⟨rfl, rfl⟩)
    | (go_at_call 19; refine (kneg (by assumption) _).mono ?_; rintro e wk ⟨rfl, rfl⟩)
    | (go_at_call 12; refine (kcmp _ _ _).mono ?_; rintro e wk ⟨rfl, rfl⟩))
  go_ret
  exact ⟨rfl, _, rfl⟩
theorem walkN {a b : Nat} (ha : a < 2 ^ 64) (hb : b < 2 ^ 64) (w : World) : Kn 10 #[wd a, wd b] w (.bool true) := by
  cases h : nanW (modW a b)
  · obtain ⟨c1, c2, c3, c4, c5, c6, c7⟩ := rest_law ha hb h
    have hl := modW_lt (a := a) (b := b)
    have hn : negV b < 2 ^ 64 := by
      obtain ⟨na, nb, ia, b0⟩ := nan_of_modW h
      have : negV b = flip b := by
        unfold negV
        exact bitsW_of (nan_of (by rw [rung_flip hb]; exact nan_false nb))
      rw [this]; exact flip_lt hb
    refine good a b (modW a b) ha hb hl w (Lib.hid fun w => kmodn ha hb w) (Lib.hid fun w => ?_) (Lib.hid fun w => ?_) h c1 c2 c3 c4 ?_
    · have := kmodn hl hb w
      rw [c6] at this; exact this
    · have := kmodn ha hn w
      rw [c7] at this; exact this
    · rw [isNeg_iff hl, isNeg_iff ha] at c5
      have : (2 ^ 63 ≤ modW a b ↔ 2 ^ 63 ≤ a) := by
        rw [← decide_eq_true_iff (p := 2 ^ 63 ≤ modW a b), c5, decide_eq_true_iff]
      omega
  · obtain ⟨h1, h2⟩ := rest_nan h
    refine bad a b (modW a b) ha hb w (Lib.hid fun w => kmodn ha hb w) h (by rw [h1]; rfl) ?_
    cases na : nanW a
    · cases nb : nanW b
      · cases ia : isInfW a
        · have hb0 : rung b = 0 := by
            rcases h2 with h | h | h | h
            · rw [na] at h; cases h
            · rw [nb] at h; cases h
            · rw [infT h] at ia; cases ia
            · exact h
          obtain ⟨d1, d2⟩ := cmp_not nb (by decide : nanW 0 = false)
          refine .inr (.inr (.inr ⟨rfl, rfl, rfl, d2, ?_⟩))
          rw [d1, (ival_zero_iff (x := b)).2 hb0]
          rfl
        · exact .inr (.inr (.inl ⟨rfl, rfl, rfl⟩))
      · exact .inr (.inl ⟨rfl, rfl⟩)
    · exact .inl rfl
theorem walk (a0 a1 : Int) (w : World) (w0 : (Lit.int .u64 a0).wf = true) (w1 : (Lit.int .u64 a1).wf = true) :
    Calls Try.prog 10 #[.int .u64 a0, .int .u64 a1] w fun e w' => e = .returned (.bool true) ∧ Below w.heap.size w w' := by
  obtain ⟨a, rfl, ha⟩ := of_wf64 w0
  obtain ⟨b, rfl, hb⟩ := of_wf64 w1
  refine (walkN ha hb w).mono ?_
  rintro e w' ⟨rfl, n, rfl⟩
  exact ⟨rfl, rfl, rfl, rfl, Nat.le_refl _, fun _ _ => rfl⟩
end Go.Proofs.Ytoodbdjmbicaeaa.numRest
