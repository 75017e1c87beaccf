/- Rounding keeps order: sums, differences, roots. No condition. -/
import Derived.Test.YtoodbdjmbicaeaaOrd
namespace Go.Proofs.Ytoodbdjmbicaeaa
open Ieee

theorem ival_word' {s : Bool} {r : Nat} (h : r < 2 ^ 63) : ival (double.word s r) = if s then -(val r : Int) else (val r : Int) := by
  unfold ival
  rw [isNeg_word h, rung_word h]
theorem ival_bound {x : Nat} (hn : nanW x = false) : -(val infR : Int) ≤ ival x ∧ ival x ≤ (val infR : Int) := by
  have := val_le (nan_false hn)
  rcases ival_abs x with ⟨e, _⟩ | ⟨e, _⟩ <;> rw [e] <;> omega

/-- A finite sum's value. -/
theorem add_val {a c : Nat} (ha : rung a < infR) (hc : rung c < infR) : ∃ r, r ≤ infR ∧ (∃ R, Near 0 (ival a + ival c).natAbs R ∧ r = min R infR) ∧ nanW (opt (double.add a c)) = false ∧
    ival (opt (double.add a c)) = if ival a + ival c < 0 then -(val r : Int) else (val r : Int) := by
  obtain ⟨R, hR, e⟩ := add_fin ha hc
  have hi := infR_lt
  have hle : min R infR ≤ infR := Nat.min_le_right _ _
  refine ⟨min R infR, hle, ⟨R, hR, rfl⟩, ?_, ?_⟩
  · rw [e, opt_word hle]; exact nan_word hle
  · rw [e, opt_word hle, ival_word' (by omega)]
    by_cases h0 : ival a + ival c = 0
    · rw [h0] at hR
      rw [Near.zero hR, Nat.zero_min, val_zero, if_neg (show ¬ (ival a + ival c < 0) by omega)]
      show (if (if ival a + ival c = 0 then isNeg a && isNeg c else _) = true then -((0 : Nat) : Int) else ((0 : Nat) : Int)) = _
      generalize (if ival a + ival c = 0 then isNeg a && isNeg c else _) = q
      cases q <;> rfl
    · rw [if_neg h0]
      by_cases h1 : ival a + ival c < 0
      · rw [decide_eq_true h1, if_pos rfl, if_pos h1]
      · rw [decide_eq_false h1, if_neg (by decide), if_neg h1]
theorem add_infc {a c : Nat} (hc : rung c = infR) (na : nanW a = false) (h : nanW (opt (double.add a c)) = false) : opt (double.add a c) = double.word (isNeg c) infR := by
  by_cases ha : rung a = infR
  · rw [add_comm', add_infs hc ha] at h ⊢
    by_cases hs : isNeg c = isNeg a
    · rw [if_pos hs, opt_word (Nat.le_refl _)]
    · rw [if_neg hs] at h; cases h
  · have := nan_false na
    rw [add_comm', add_inf hc (by omega), opt_word (Nat.le_refl _)]

/-- Sums keep order. -/
theorem add_mono {a b c : Nat} (na : nanW a = false) (nb : nanW b = false) (hle : ival a ≤ ival b)
    (h1 : nanW (opt (double.add a c)) = false) (h2 : nanW (opt (double.add b c)) = false) : ival (opt (double.add a c)) ≤ ival (opt (double.add b c)) := by
  have hi := infR_lt
  by_cases nc : nanW c = true
  · rw [add_nan (.inr nc)] at h1; cases h1
  have nc' : nanW c = false := by simpa using nc
  by_cases hc : rung c = infR
  · rw [add_infc hc na h1, add_infc hc nb h2]; exact Int.le_refl _
  have hcf : rung c < infR := by have := nan_false nc'; omega
  have ba := ival_bound na
  have bb := ival_bound nb
  have B1 := ival_bound h1
  have B2 := ival_bound h2
  by_cases hai : rung a = infR
  · rw [add_inf hai hcf, opt_word (Nat.le_refl _)] at B1 ⊢
    rw [ival_word' hi] at B1 ⊢
    rcases ival_abs a with ⟨e, f⟩ | ⟨e, f⟩ <;> rw [f] <;> rw [hai] at e
    · have hbi : rung b = infR ∧ isNeg b = false := by
        rcases ival_abs b with ⟨e', f'⟩ | ⟨e', f'⟩
        · exact ⟨val_inj (by omega), f'⟩
        · have := val_lt (show 0 < infR by decide)
          omega
      rw [add_inf hbi.1 hcf, opt_word (Nat.le_refl _), ival_word' hi, hbi.2]
      exact Int.le_refl _
    · exact B2.1
  by_cases hbi : rung b = infR
  · rw [add_inf hbi hcf, opt_word (Nat.le_refl _)] at B2 ⊢
    rw [ival_word' hi] at B2 ⊢
    rcases ival_abs b with ⟨e, f⟩ | ⟨e, f⟩ <;> rw [f] <;> rw [hbi] at e
    · exact B1.2
    · exfalso
      have h3 := nan_false na
      have := val_lt (show rung a < infR by omega)
      rcases ival_abs a with ⟨e', f'⟩ | ⟨e', f'⟩ <;> omega
  have haf : rung a < infR := by have := nan_false na; omega
  have hbf : rung b < infR := by have := nan_false nb; omega
  obtain ⟨r, hr, ⟨R, hR, er⟩, _, ea⟩ := add_val haf hcf
  obtain ⟨s, hs, ⟨S, hS, es⟩, _, eb⟩ := add_val hbf hcf
  rw [ea, eb]
  by_cases t1 : ival a + ival c < 0
  · rw [if_pos t1]
    by_cases t2 : ival b + ival c < 0
    · rw [if_pos t2]
      have h := hS.mono hR (by omega)
      have := val_le (show s ≤ r by omega)
      omega
    · rw [if_neg t2]; omega
  · rw [if_neg t1, if_neg (by omega)]
    have h := hR.mono hS (by omega)
    have := val_le (show r ≤ s by omega)
    omega

/-- The whole root. -/
theorem rootFrom_spec (n : Nat) : ∀ (todo root : Nat), root * root ≤ n → n < (root + 2 ^ todo) * (root + 2 ^ todo) →
    Datum.rootFrom n todo root * Datum.rootFrom n todo root ≤ n ∧ n < (Datum.rootFrom n todo root + 1) * (Datum.rootFrom n todo root + 1)
  | 0, root, h1, h2 => ⟨h1, h2⟩
  | todo + 1, root, h1, h2 => by
    unfold Datum.rootFrom
    simp only [Nat.one_shiftLeft]
    by_cases h : (root + 2 ^ todo) * (root + 2 ^ todo) ≤ n
    · rw [if_pos h]
      refine rootFrom_spec n todo _ h ?_
      have e : root + 2 ^ todo + 2 ^ todo = root + 2 ^ (todo + 1) := by rw [Nat.pow_succ]; omega
      rw [e]
      exact h2
    · rw [if_neg h]
      exact rootFrom_spec n todo _ h1 (by omega)
theorem root_spec {n w : Nat} (h : Datum.rootFrom n (n.log2 / 2 + 1) 0 = w) : w * w ≤ n ∧ n < (w + 1) * (w + 1) := by
  rw [← h]
  refine rootFrom_spec n _ 0 (Nat.zero_le _) ?_
  rw [Nat.zero_add, ← Nat.pow_add]
  exact Nat.lt_of_lt_of_le Nat.lt_log2_self (Nat.pow_le_pow_right (by decide) (by omega))

theorem root_eq (d m : Nat) (i : Int) (hm : m ≠ 0) : Datum.root d (.number false m i) =
    some (.number false (2 * Datum.rootFrom (m <<< (2 * d - m.log2 + ((i - (2 * d - m.log2 : Nat)) % 2).toNat)) ((m <<< (2 * d - m.log2 + ((i - (2 * d - m.log2 : Nat)) % 2).toNat)).log2 / 2 + 1) 0 +
      (Datum.rootFrom (m <<< (2 * d - m.log2 + ((i - (2 * d - m.log2 : Nat)) % 2).toNat)) ((m <<< (2 * d - m.log2 + ((i - (2 * d - m.log2 : Nat)) % 2).toNat)).log2 / 2 + 1) 0 * Datum.rootFrom (m <<< (2 * d - m.log2 + ((i - (2 * d - m.log2 : Nat)) % 2).toNat)) ((m <<< (2 * d - m.log2 + ((i - (2 * d - m.log2 : Nat)) % 2).toNat)).log2 / 2 + 1) 0 != m <<< (2 * d - m.log2 + ((i - (2 * d - m.log2 : Nat)) % 2).toNat)).toNat)
      ((i - (2 * d - m.log2 + ((i - (2 * d - m.log2 : Nat)) % 2).toNat : Nat)) / 2 - 1)) := by
  simp only [Datum.root, if_neg hm]
  rfl

/-- The root of a finite number above nought. -/
theorem sqrt_fin {x : Nat} (hf : rung x < infR) (hs : isNeg x = false) (h0 : rung x ≠ 0) : ∃ N e w r, N * 2 ^ (2 * e) = val (rung x) * 2 ^ 110 ∧ 2 ^ 108 ≤ N ∧ N < 2 ^ 110 ∧ w * w ≤ N ∧ N < (w + 1) * (w + 1) ∧
    Near 0 ((2 * w + (w * w != N).toNat) * 2 ^ (e + 481)) r ∧ double.sqrt x = some (double.word false (min r infR)) := by
  unfold Format.sqrt
  rw [read_num hf, hs]
  obtain ⟨m, hm⟩ : ∃ m, mg (rung x) = m := ⟨_, rfl⟩
  obtain ⟨p, hp⟩ : ∃ p, pl (rung x) = p := ⟨_, rfl⟩
  have hml : m < 2 ^ 53 := by rw [← hm]; exact mg_lt _
  have hv : val (rung x) = m * 2 ^ p := by unfold val; rw [hm, hp]
  have hm0 : m ≠ 0 := by
    intro h
    rw [h, Nat.zero_mul, ← val_zero] at hv
    exact h0 (val_inj hv)
  rw [hm, hp]
  have hlm : m.log2 ≤ 52 := by have := (Nat.log2_lt hm0).2 hml; omega
  obtain ⟨lg, hlg⟩ : ∃ lg, m.log2 = lg := ⟨_, rfl⟩
  have hm1 : 2 ^ lg ≤ m := by rw [← hlg]; exact Nat.log2_self_le hm0
  have hm2 : m < 2 ^ (lg + 1) := by rw [← hlg]; exact Nat.lt_log2_self
  have hfb : double.fractionBits + 2 = 54 := by decide
  rw [hfb, root_eq 54 m _ hm0, hlg]
  rw [hlg] at hlm
  obtain ⟨more, hmore⟩ : ∃ more, 2 * 54 - lg + ((-1074 + (p : Int) - (2 * 54 - lg : Nat)) % 2).toNat = more := ⟨_, rfl⟩
  rw [hmore]
  have hmr : more = 108 - lg ∨ more = 109 - lg := by omega
  have heven : (-1074 + (p : Int) - (more : Nat)) % 2 = 0 := by omega
  obtain ⟨E, hE⟩ : ∃ E, (-1074 + (p : Int) - (more : Nat)) / 2 = E := ⟨_, rfl⟩
  have hE2 : 2 * E = -1074 + (p : Int) - more := by omega
  rw [hE, Nat.shiftLeft_eq]
  obtain ⟨N, hN⟩ : ∃ N, m * 2 ^ more = N := ⟨_, rfl⟩
  rw [hN]
  obtain ⟨w, hw⟩ : ∃ w, Datum.rootFrom N (N.log2 / 2 + 1) 0 = w := ⟨_, rfl⟩
  have hsp := root_spec hw
  rw [hw]
  obtain ⟨e, he⟩ : ∃ e : Nat, (e : Int) = E + 592 := ⟨(E + 592).toNat, by omega⟩
  refine ⟨N, e, w, rnd (2 * w + (w * w != N).toNat) (E - 1), ?_, ?_, ?_, hsp.1, hsp.2, ?_, ?_⟩
  · rw [← hN, hv, Nat.mul_assoc, Nat.mul_assoc, ← Nat.pow_add, ← Nat.pow_add]
    congr 2
    omega
  · rw [← hN]
    have h1 : 2 ^ lg * 2 ^ more ≤ m * 2 ^ more := Nat.mul_le_mul_right _ hm1
    have h2 : 2 ^ 108 ≤ 2 ^ lg * 2 ^ more := by rw [← Nat.pow_add]; exact Nat.pow_le_pow_right (by decide) (by omega)
    omega
  · rw [← hN]
    have h1 : m * 2 ^ more < 2 ^ (lg + 1) * 2 ^ more := Nat.mul_lt_mul_of_pos_right hm2 (Nat.two_pow_pos _)
    have h2 : 2 ^ (lg + 1) * 2 ^ more ≤ 2 ^ 110 := by rw [← Nat.pow_add]; exact Nat.pow_le_pow_right (by decide) (by omega)
    omega
  · exact rnd_near _ _ 0 (e + 481) (by omega)
  · show some (double.write (.number false (2 * w + (w * w != N).toNat) (E - 1))) = _
    rw [write_num]

theorem sq_lt {a b : Nat} (h : a * a < b * b) : a < b := by
  refine Nat.lt_of_not_le fun h2 => ?_
  have := Nat.mul_le_mul h2 h2
  omega

/-- Roots keep order. -/
theorem sqrt_core {N M e f w v : Nat} (hN1 : 2 ^ 108 ≤ N) (hM2 : M < 2 ^ 110) (hM1 : 2 ^ 108 ≤ M) (hN2 : N < 2 ^ 110)
    (hw1 : w * w ≤ N) (hv1 : v * v ≤ M) (hv2 : M < (v + 1) * (v + 1)) (hle : N * 2 ^ (2 * e) ≤ M * 2 ^ (2 * f)) :
    (2 * w + (w * w != N).toNat) * 2 ^ e ≤ (2 * v + (v * v != M).toNat) * 2 ^ f := by
  have sw : (w * w != N).toNat ≤ 1 := Bool.toNat_le _
  have wl : w < 2 ^ 55 := sq_lt (by omega)
  have vl : 2 ^ 54 < v + 1 := sq_lt (by omega)
  rcases Nat.lt_trichotomy e f with h | h | h
  · have h1 : 2 ^ (e + 1) ≤ 2 ^ f := Nat.pow_le_pow_right (by decide) (by omega)
    have h2 : 2 ^ (e + 1) = 2 * 2 ^ e := by rw [Nat.pow_succ]; omega
    calc (2 * w + (w * w != N).toNat) * 2 ^ e ≤ 2 ^ 56 * 2 ^ e := Nat.mul_le_mul_right _ (by omega)
      _ = 2 ^ 55 * (2 * 2 ^ e) := by rw [← Nat.mul_assoc]
      _ ≤ 2 ^ 55 * 2 ^ f := Nat.mul_le_mul_left _ (by omega)
      _ ≤ (2 * v + (v * v != M).toNat) * 2 ^ f := Nat.mul_le_mul_right _ (by omega)
  · subst h
    have hNM : N ≤ M := Nat.le_of_mul_le_mul_right hle (Nat.two_pow_pos _)
    refine Nat.mul_le_mul_right _ ?_
    have h1 : w < v + 1 := sq_lt (by omega)
    by_cases h2 : w = v
    · subst h2
      by_cases h3 : w * w = N
      · rw [h3]; simp
      · have h4 : ¬ w * w = M := by omega
        rw [bne_iff_ne.2 h3, bne_iff_ne.2 h4]
        exact Nat.le_refl _
    · omega
  · exfalso
    have h1 : 2 ^ (2 * f + 2) ≤ 2 ^ (2 * e) := Nat.pow_le_pow_right (by decide) (by omega)
    have h2 : 2 ^ (2 * f + 2) = 4 * 2 ^ (2 * f) := by rw [Nat.pow_add]; omega
    have h3 : 2 ^ 108 * 2 ^ (2 * e) ≤ N * 2 ^ (2 * e) := Nat.mul_le_mul_right _ hN1
    have h4 : M * 2 ^ (2 * f) < 2 ^ 110 * 2 ^ (2 * f) := Nat.mul_lt_mul_of_pos_right hM2 (Nat.two_pow_pos _)
    have h5 : 2 ^ 108 * (4 * 2 ^ (2 * f)) ≤ 2 ^ 108 * 2 ^ (2 * e) := Nat.mul_le_mul_left _ (by omega)
    have h6 : 2 ^ 108 * (4 * 2 ^ (2 * f)) = 2 ^ 110 * 2 ^ (2 * f) := by rw [← Nat.mul_assoc]
    omega

theorem sqrt_zero {x : Nat} (hx : x < 2 ^ 64) (hs : isNeg x = false) (h0 : rung x = 0) : double.sqrt x = some 0 := by
  have e : x = 0 := by
    rw [isNeg_iff hx] at hs
    have := of_decide_eq_false hs
    unfold rung at h0
    omega
  subst e
  decide
theorem sqrt_inf {x : Nat} (hs : isNeg x = false) (hi : rung x = infR) : double.sqrt x = some (double.word false infR) := by
  unfold Format.sqrt
  rw [read_inf hi, hs]
  show some _ = _
  rw [write_inf]
theorem sqrt_some {x : Nat} (hx : x < 2 ^ 64) (hs : isNeg x = false) (hn : nanW x = false) : ∃ r, r ≤ infR ∧ opt (double.sqrt x) = double.word false r := by
  by_cases h0 : rung x = 0
  · exact ⟨0, by decide, by rw [sqrt_zero hx hs h0]; rfl⟩
  · by_cases hi : rung x = infR
    · exact ⟨infR, Nat.le_refl _, by rw [sqrt_inf hs hi, opt_word (Nat.le_refl _)]⟩
    · have := nan_false hn
      obtain ⟨N, e, w, r, _, _, _, _, _, _, h⟩ := sqrt_fin (by omega) hs h0
      exact ⟨min r infR, Nat.min_le_right _ _, by rw [h, opt_word (Nat.min_le_right _ _)]⟩
theorem sqrt_mono {x y : Nat} (hx : x < 2 ^ 64) (hy : y < 2 ^ 64) (sx : isNeg x = false) (sy : isNeg y = false) (nx : nanW x = false) (ny : nanW y = false) (h : val (rung x) ≤ val (rung y)) :
    ival (opt (double.sqrt x)) ≤ ival (opt (double.sqrt y)) := by
  have hi := infR_lt
  have hrr : rung x ≤ rung y := Nat.le_of_not_lt fun k => by have := val_lt k; omega
  have bx := nan_false nx
  have by' := nan_false ny
  obtain ⟨ry, hry, ey⟩ := sqrt_some hy sy ny
  by_cases x0 : rung x = 0
  · rw [sqrt_zero hx sx x0, ey, ival_word' (by omega), show opt (some 0) = 0 from rfl, show ival 0 = 0 from rfl, if_neg (by decide)]
    omega
  by_cases yi : rung y = infR
  · obtain ⟨rx, hrx, ex⟩ := sqrt_some hx sx nx
    rw [sqrt_inf sy yi, ex, opt_word (Nat.le_refl _), ival_word' (by omega), ival_word' hi, if_neg (by decide), if_neg (by decide)]
    have := val_le hrx
    omega
  obtain ⟨N, e, w, r, q1, q2, q3, q4, _, q6, q7⟩ := sqrt_fin (x := x) (by omega) sx x0
  obtain ⟨M, f, v, s, k1, k2, k3, k4, k5, k6, k7⟩ := sqrt_fin (x := y) (by omega) sy (by omega)
  have hc := sqrt_core q2 k3 k2 q3 q4 k4 k5 (by rw [q1, k1]; exact Nat.mul_le_mul_right _ h)
  have hd : (2 * w + (w * w != N).toNat) * 2 ^ (e + 481) ≤ (2 * v + (v * v != M).toNat) * 2 ^ (f + 481) := by
    rw [Nat.pow_add 2 e, Nat.pow_add 2 f, ← Nat.mul_assoc, ← Nat.mul_assoc]
    exact Nat.mul_le_mul_right _ hc
  have hrs := q6.mono k6 hd
  have m1 : min r infR ≤ infR := Nat.min_le_right _ _
  have m2 : min s infR ≤ infR := Nat.min_le_right _ _
  rw [q7, k7, opt_word m1, opt_word m2, ival_word' (by omega), ival_word' (by omega), if_neg (by decide), if_neg (by decide)]
  have := val_le (show min r infR ≤ min s infR by omega)
  omega

theorem absV_eq {a : Nat} (hn : nanW a = false) : absV a = rung a ∧ rung (absV a) = rung a ∧ isNeg (absV a) = false ∧ nanW (absV a) = false := by
  have h1 := rung_lt a
  have h2 : rung (rung a) = rung a := by unfold rung; rw [Nat.mod_mod]
  have h3 : nanW (rung a) = false := by rw [nanW_eq, h2, ← nanW_eq]; exact hn
  have h4 : absV a = rung a := bitsW_of h3
  rw [h4]
  refine ⟨rfl, h2, ?_, h3⟩
  rw [isNeg_iff (by omega)]
  exact decide_eq_false (by omega)

theorem cmp_le {x y : Nat} (h : nanW x = false → nanW y = false → ival x ≤ ival y) : cmpK x y = true → cmpC x y ≤ 0 := by
  intro hk
  by_cases hn : nanW x = true ∨ nanW y = true
  · rw [(cmp_nan hn).2] at hk; cases hk
  · have hx : nanW x = false := by simpa using fun h => hn (.inl h)
    have hy : nanW y = false := by simpa using fun h => hn (.inr h)
    rw [(cmp_not hx hy).1]
    have := h hx hy
    rw [if_neg (show ¬ ival y < ival x by omega)]
    split <;> omega

/-- The law NumRises. -/
theorem rises_law {a b c : Nat} (ha : a < 2 ^ 64) (hb : b < 2 ^ 64) (h : cmpK a b = true) (hd : cmpC a b ≤ 0) :
    (cmpK (opt (double.add a c)) (opt (double.add b c)) = true → cmpC (opt (double.add a c)) (opt (double.add b c)) ≤ 0) ∧
    (cmpK (opt (double.sub c b)) (opt (double.sub c a)) = true → cmpC (opt (double.sub c b)) (opt (double.sub c a)) ≤ 0) ∧
    cmpK (opt (double.sqrt (absV a))) (opt (double.sqrt (absV b))) = true ∧ cmpK (absV a) (absV b) = true ∧
    (cmpC (opt (double.sqrt (absV a))) (opt (double.sqrt (absV b))) = 0 ∨ cmpC (opt (double.sqrt (absV a))) (opt (double.sqrt (absV b))) = cmpC (absV a) (absV b)) := by
  have hnn : nanW a = false ∧ nanW b = false := by
    by_cases hn : nanW a = true ∨ nanW b = true
    · rw [(cmp_nan hn).2] at h; cases h
    · exact ⟨by simpa using fun h => hn (.inl h), by simpa using fun h => hn (.inr h)⟩
  obtain ⟨na, nb⟩ := hnn
  have hle : ival a ≤ ival b := by
    rw [(cmp_not na nb).1] at hd
    refine Int.not_lt.1 fun hlt => ?_
    rw [if_neg (by omega), if_pos hlt] at hd
    omega
  obtain ⟨_, a2, a3, a4⟩ := absV_eq na
  obtain ⟨_, b2, b3, b4⟩ := absV_eq nb
  have al : absV a < 2 ^ 64 := by have := rung_lt a; rw [(absV_eq na).1]; omega
  have bl : absV b < 2 ^ 64 := by have := rung_lt b; rw [(absV_eq nb).1]; omega
  have hi := infR_lt
  refine ⟨cmp_le (add_mono na nb hle), cmp_le ?_, ?_, (cmp_not a4 b4).2, ?_⟩
  · rw [sub_flip hb, sub_flip ha, add_comm' c, add_comm' c]
    exact add_mono (by rw [nan_flip hb]; exact nb) (by rw [nan_flip ha]; exact na) (by rw [ival_flip ha, ival_flip hb]; omega)
  · obtain ⟨r, hr, e1⟩ := sqrt_some al a3 a4
    obtain ⟨s, hs, e2⟩ := sqrt_some bl b3 b4
    rw [e1, e2]
    exact (cmp_not (nan_word hr) (nan_word hs)).2
  · have n1 : nanW (opt (double.sqrt (absV a))) = false := by obtain ⟨r, hr, e1⟩ := sqrt_some al a3 a4; rw [e1]; exact nan_word hr
    have n2 : nanW (opt (double.sqrt (absV b))) = false := by obtain ⟨r, hr, e1⟩ := sqrt_some bl b3 b4; rw [e1]; exact nan_word hr
    rw [(cmp_not n1 n2).1, (cmp_not a4 b4).1]
    have ia : ival (absV a) = val (rung (absV a)) := by unfold ival; rw [a3]; rfl
    have ib : ival (absV b) = val (rung (absV b)) := by unfold ival; rw [b3]; rfl
    have m1 := sqrt_mono al bl a3 b3 a4 b4
    have m2 := sqrt_mono bl al b3 a3 b4 a4
    rw [ia, ib]
    by_cases h1 : val (rung (absV a)) < val (rung (absV b))
    · have := m1 (by omega)
      rw [if_pos (show (val (rung (absV a)) : Int) < (val (rung (absV b)) : Int) by omega)]
      by_cases h2 : ival (opt (double.sqrt (absV a))) < ival (opt (double.sqrt (absV b)))
      · right; rw [if_pos h2]
      · left; rw [if_neg h2, if_neg (by omega)]
    · rw [if_neg (show ¬ (val (rung (absV a)) : Int) < (val (rung (absV b)) : Int) by omega)]
      have := m2 (by omega)
      rw [if_neg (by omega)]
      by_cases h2 : ival (opt (double.sqrt (absV b))) < ival (opt (double.sqrt (absV a)))
      · right
        rw [if_pos h2, if_pos]
        refine Int.not_le.1 fun h3 => ?_
        have := m1 (by omega)
        omega
      · left; rw [if_neg h2]
end Go.Proofs.Ytoodbdjmbicaeaa
