/- Mod of any numbers. No condition. -/
import Derived.Test.YtoodbdjmbicaeaaGreatFx5
namespace Go.Proofs.YtoodbdjmbicaeaaGreat
open Go.RowKit
set_option maxRecDepth 8000
set_option maxHeartbeats 1000000
set_option linter.unusedVariables false
set_option linter.unusedSimpArgs false

theorem flip_rung {a : Nat} (ha : a < 2 ^ 64) (hs : isNeg a = true) : flip a = rung a := by
  rw [isNeg_iff ha] at hs
  have := of_decide_eq_true hs
  unfold flip rung
  rw [if_neg (by omega)]
  omega
theorem pos_rung {a : Nat} (ha : a < 2 ^ 64) (hs : isNeg a = false) : a = rung a := by
  rw [isNeg_iff ha] at hs
  have := of_decide_eq_false hs
  unfold rung
  omega
theorem abs_way {a : Nat} (ha : a < 2 ^ 64) : rung a = if isNeg a then flip a else a := by
  cases hsn : isNeg a
  · rw [if_neg (by decide)]; exact (pos_rung ha hsn).symm
  · rw [if_pos rfl]; exact (flip_rung ha hsn).symm
theorem way_abs {a : Nat} (ha : a < 2 ^ 64) : a = if isNeg a then flip (rung a) else rung a := by
  cases hsn : isNeg a
  · rw [if_neg (by decide)]; exact pos_rung ha hsn
  · rw [if_pos rfl, ← flip_rung ha hsn, flip_flip ha]
theorem ge_false {r y : Nat} (hr : rung r ≤ infR) (hy : y ≤ infR) (h : ival r < (val y : Int)) : (FloatKind.f64.format.order r y == some .gt || FloatKind.f64.format.order r y == some .eq) = false := by
  have hi := infR_lt
  show (Ieee.double.order r y == some .gt || Ieee.double.order r y == some .eq) = _
  rw [order_eq hr (by rw [(plain_word (by omega)).1]; exact hy), cmp_ge, ival_plain (by omega)]
  exact decide_eq_false (by omega)
theorem modW_nan {a b : Nat} (h : nanW a = true ∨ nanW b = true ∨ rung a = infR ∨ rung b = 0) : modW a b = theNaN := by
  unfold modW
  exact if_pos h
theorem modW_num {a b : Nat} (h1 : nanW a = false) (h2 : nanW b = false) (h3 : rung a ≠ infR) (h4 : rung b ≠ 0) : modW a b = Ieee.double.word (isNeg a) (modR (rung a) (rung b)) := by
  unfold modW
  refine if_neg ?_
  rintro (h | h | h | h)
  · rw [h1] at h; cases h
  · rw [h2] at h; cases h
  · exact h3 h
  · exact h4 h
theorem eqNan {b : Nat} (nb : nanW b = true) : (FloatKind.f64.format.order b 0 == some .eq) = false := by
  have : FloatKind.f64.format.order b 0 = none := order_nan (.inl (of_decide_eq_true nb))
  rw [this]; rfl
theorem isZ {b : Nat} (hb0 : rung b = 0) : (FloatKind.f64.format.order b 0 == some .eq) = true := by
  rw [(ord_zero (nan_of (by rw [hb0]; exact Nat.zero_le _))).1 hb0]; rfl
theorem ltZ {a : Nat} (na : nanW a = false) (ha0 : rung a = 0) : (FloatKind.f64.format.order a 0 == some .lt) = false := by rw [(ord_zero na).1 ha0]; rfl
theorem ltS {a : Nat} (na : nanW a = false) (ha0 : rung a ≠ 0) : (FloatKind.f64.format.order a 0 == some .lt) = isNeg a := by
  cases hs : isNeg a
  · rw [(ord_zero na).2.2 ha0 hs]; rfl
  · rw [(ord_zero na).2.1 ha0 hs]; rfl
theorem kmodC {a b : Nat} (ha : a < 2 ^ 64) (hb : b < 2 ^ 64) (na : nanW a = false) (nb : nanW b = false) (ia : rung a ≠ infR) (hb0 : rung b ≠ 0) (ha0 : rung a = 0) (w : World) : Kn 134 #[.float .f64 a, .float .f64 b] w (.float .f64 a) := by
  have lb := nan_false nb
  have YP := plain_word (rung_lt b)
  have y64 : rung b < 2 ^ 64 := Nat.lt_trans (rung_lt b) (by decide)
  have hge : (FloatKind.f64.format.order a (rung b) == some .gt || FloatKind.f64.format.order a (rung b) == some .eq) = false := by
    refine ge_false (nan_false na) lb ?_
    rw [(ival_zero_iff (x := a)).2 ha0]
    exact Int.ofNat_lt.2 (Nat.pos_of_ne_zero (val_pos hb0))
  by_cases ib : rung b = infR
  · exact kmod3 (y := rung b) ha (eqZero nb hb0) (infF ia) na nb w (kmabs hb w) (rung b) 0 (kfrexpO y64 (.inr (by rw [YP.1, ib]; exact Nat.le_refl _)) w) false (ltZ na ha0) a a (if_neg (by decide)).symm hge (if_neg (by decide)).symm ha
  · exact kmod3 (y := rung b) ha (eqZero nb hb0) (infF ia) na nb w (kmabs hb w) _ _ (kfrexp (x := rung b) y64 (by rw [YP.1]; exact Nat.lt_of_le_of_ne lb ib) (by rw [YP.1]; exact hb0) w) false (ltZ na ha0) a a (if_neg (by decide)).symm hge (if_neg (by decide)).symm ha
theorem kmodD {a b : Nat} (ha : a < 2 ^ 64) (hb : b < 2 ^ 64) (na : nanW a = false) (nb : nanW b = false) (ia : rung a ≠ infR) (ib : rung b = infR) (hb0 : rung b ≠ 0) (ha0 : rung a ≠ 0) (w : World) : Kn 134 #[.float .f64 a, .float .f64 b] w (.float .f64 a) := by
  have lb := nan_false nb
  have fa : rung a < infR := Nat.lt_of_le_of_ne (nan_false na) ia
  have YP := plain_word (rung_lt b)
  have RP := plain_word (rung_lt a)
  have y64 : rung b < 2 ^ 64 := Nat.lt_trans (rung_lt b) (by decide)
  have r64 : rung a < 2 ^ 64 := Nat.lt_trans (rung_lt a) (by decide)
  have hA := abs_way ha
  have hge : (FloatKind.f64.format.order (rung a) (rung b) == some .gt || FloatKind.f64.format.order (rung a) (rung b) == some .eq) = false := by
    refine ge_false (by rw [RP.1]; exact Nat.le_of_lt fa) lb ?_
    rw [ival_plain (rung_lt a), ib]
    exact Int.ofNat_lt.2 (val_lt fa)
  have hV := way_abs ha
  exact kmod3 (y := rung b) ha (eqZero nb hb0) (infF ia) na nb w (kmabs hb w) (rung b) 0 (kfrexpO y64 (.inr (by rw [YP.1, ib]; exact Nat.le_refl _)) w) (isNeg a) (ltS na ha0) (rung a) a hA hge hV r64
theorem kmodE {a b : Nat} (ha : a < 2 ^ 64) (hb : b < 2 ^ 64) (na : nanW a = false) (nb : nanW b = false) (ia : rung a ≠ infR) (ib : rung b ≠ infR) (hb0 : rung b ≠ 0) (ha0 : rung a ≠ 0) (w : World) : Kn 134 #[.float .f64 a, .float .f64 b] w (.float .f64 (Ieee.double.word (isNeg a) (modR (rung a) (rung b)))) := by
  have fa : rung a < infR := Nat.lt_of_le_of_ne (nan_false na) ia
  have fb : rung b < infR := Nat.lt_of_le_of_ne (nan_false nb) ib
  have YP := plain_word (rung_lt b)
  have y64 : rung b < 2 ^ 64 := Nat.lt_trans (rung_lt b) (by decide)
  have hA := abs_way ha
  have kf := kfrexp (x := rung b) y64 (by rw [YP.1]; exact fb) (by rw [YP.1]; exact hb0) w
  rw [YP.1] at kf
  obtain ⟨f1, f2⟩ := frac_plain hb0 fb
  exact kmod4 (y := rung b) ha (eqZero nb hb0) (infF ia) na nb w (kmabs hb w) fb hb0 (fracW (rung b)) _ f1 f2 rfl kf (isNeg a) (ltS na ha0) (rung a) _ fa hA rfl
theorem kmod {a b : Nat} (ha : a < 2 ^ 64) (hb : b < 2 ^ 64) (w : World) : Kn 134 #[.float .f64 a, .float .f64 b] w (.float .f64 (modW a b)) := by
  by_cases hb0 : rung b = 0
  · rw [modW_nan (.inr (.inr (.inr hb0)))]
    exact kmod1 ha (isZ hb0) w
  · cases nb : nanW b
    · have hz := eqZero nb hb0
      cases na : nanW a
      · by_cases ia : rung a = infR
        · rw [modW_nan (.inr (.inr (.inl ia)))]
          exact kmod2 ha hz (.inl (infT ia)) w
        · rw [modW_num na nb ia hb0]
          by_cases ha0 : rung a = 0
          · have hv : Ieee.double.word (isNeg a) (modR (rung a) (rung b)) = a := by
              have : modR (rung a) (rung b) = rung a := modR_of (by rw [ha0, val_zero, Nat.zero_mod])
              rw [this, word_split ha]
            rw [hv]
            exact kmodC ha hb na nb ia hb0 ha0 w
          · by_cases ib : rung b = infR
            · have fa : rung a < infR := Nat.lt_of_le_of_ne (nan_false na) ia
              have hmr : modR (rung a) (rung b) = rung a := modR_of (by rw [ib, Nat.mod_eq_of_lt (val_lt fa)])
              rw [hmr, word_split ha]
              exact kmodD ha hb na nb ia ib hb0 ha0 w
            · exact kmodE ha hb na nb ia ib hb0 ha0 w
      · rw [modW_nan (.inl na)]
        exact kmod2 ha hz (.inr (.inl ⟨infF (Nat.ne_of_gt (of_decide_eq_true na)), na⟩)) w
    · have hz := eqNan nb
      rw [modW_nan (.inr (.inl nb))]
      by_cases ia : rung a = infR
      · exact kmod2 ha hz (.inl (infT ia)) w
      · cases na : nanW a
        · exact kmod2 ha hz (.inr (.inr ⟨infF ia, na, nb⟩)) w
        · exact kmod2 ha hz (.inr (.inl ⟨infF ia, na⟩)) w
theorem kmMod {a b : Nat} (ha : a < 2 ^ 64) (hb : b < 2 ^ 64) (w : World) : Kn 122 #[.float .f64 a, .float .f64 b] w (.float .f64 (modW a b)) := by
  have K := Lib.hid (kmod ha hb w)
  obtain ⟨V, hV⟩ : ∃ V, modW a b = V := ⟨_, rfl⟩
  rw [hV] at K ⊢
  clear hV
  go_enter Tryz.func122, Tryz.ntmps122
  go_wp2_with (go_at_call 134; refine (K.out).mono ?_; rintro e wk ⟨rfl, nk, hw1⟩; subst hw1)
  go_ret
  exact ⟨rfl, nk, rfl⟩
theorem modR_lt {a b : Nat} (ha : a < infR) : modR a b ≤ infR := by
  have h1 := rnd_near (val a % val b) (-1074) 0 0 (by omega)
  have h2 := near_val 0 a
  rw [Nat.pow_zero, Nat.mul_one] at h1 h2
  have h3 : val a % val b ≤ val a := Nat.mod_le _ _
  have := h1.mono h2 h3
  unfold modR
  omega
theorem modW_bits {a b : Nat} : bitsW (modW a b) = modW a b := by
  by_cases h : nanW a ∨ nanW b ∨ rung a = infR ∨ rung b = 0
  · have hm : modW a b = theNaN := by unfold modW; rw [if_pos h]
    rw [hm]; decide
  · have hm : modW a b = Ieee.double.word (isNeg a) (modR (rung a) (rung b)) := by unfold modW; rw [if_neg h]
    rw [hm]
    refine bitsW_of (nan_word (modR_lt ?_))
    have h1 : nanW a = false := by simpa using fun k => h (.inl k)
    have h2 : rung a ≠ infR := fun k => h (.inr (.inr (.inl k)))
    have := nan_false h1
    omega
theorem kmodn {a b : Nat} (ha : a < 2 ^ 64) (hb : b < 2 ^ 64) (w : World) : Kn 89 #[wd a, wd b] w (wd (modW a b)) := by
  have K := Lib.hid (kmMod ha hb w)
  have hv := modW_bits (a := a) (b := b)
  obtain ⟨V, hV⟩ : ∃ V, modW a b = V := ⟨_, rfl⟩
  rw [hV] at K hv ⊢
  clear hV
  go_enter Tryz.func89, Tryz.ntmps89
  go_wp2_with (first
    | (go_at_call 76; refine (kbits _ _).mono ?_; rintro e wz ⟨rfl, hw1⟩; have hw2 := hw1.symm; clear hw1; subst hw2)
    | (go_at_call 122; refine (K.out).mono ?_; rintro e wk ⟨rfl, nk, hw1⟩; subst hw1)
    | (go_at_call 73; have tk2 := tk1; refine (kof b _).mono ?_; rintro e wz ⟨rfl, hw1⟩; have hw2 := hw1.symm; clear hw1; subst hw2)
    | (go_at_call 73; have tk1 := True.intro; refine (kof a _).mono ?_; rintro e wz ⟨rfl, hw1⟩; have hw2 := hw1.symm; clear hw1; subst hw2))
  go_ret
  exact ⟨by simp only [hv]; rfl, nk, rfl⟩
end Go.Proofs.YtoodbdjmbicaeaaGreat
