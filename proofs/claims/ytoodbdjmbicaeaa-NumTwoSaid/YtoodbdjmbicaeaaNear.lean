/- To the nearest rung: what rounding gives, and that it keeps order. No condition. -/
import Derived.Test.YtoodbdjmbicaeaaFlt
namespace Go.Proofs.Ytoodbdjmbicaeaa
open Ieee

/-- r is the rung nearest to X / 2 ^ D units; between two, the even one. -/
structure Near (D X r : Nat) : Prop where
  lo : ∀ s, s + 1 = r → (val s + val r) * 2 ^ D ≤ 2 * X
  loE : ∀ s, s + 1 = r → (val s + val r) * 2 ^ D = 2 * X → r % 2 = 0
  hi : 2 * X ≤ (val r + val (r + 1)) * 2 ^ D
  hiE : 2 * X = (val r + val (r + 1)) * 2 ^ D → r % 2 = 0

theorem Near.mono {D X Y r s : Nat} (h : Near D X r) (k : Near D Y s) (hle : X ≤ Y) : r ≤ s := by
  refine Nat.le_of_not_lt fun hlt => ?_
  obtain ⟨t, ht⟩ : ∃ t, t + 1 = r := ⟨r - 1, by omega⟩
  have a := h.lo t ht
  have b := k.hi
  have c : val s ≤ val t := val_le (by omega)
  have d : val (s + 1) ≤ val r := val_le (by omega)
  have e : (val s + val (s + 1)) * 2 ^ D ≤ (val t + val r) * 2 ^ D := Nat.mul_le_mul_right _ (by omega)
  have f : (val s + val (s + 1)) * 2 ^ D = (val t + val r) * 2 ^ D := by omega
  have g := Nat.eq_of_mul_eq_mul_right (Nat.two_pow_pos D) f
  have hst : s = t := val_inj (by omega)
  have h1 := h.loE t ht (by omega)
  have h2 := k.hiE (by omega)
  omega
theorem Near.unique {D X r s : Nat} (h : Near D X r) (k : Near D X s) : r = s := Nat.le_antisymm (h.mono k (Nat.le_refl _)) (k.mono h (Nat.le_refl _))
/-- A rung is nearest to its own magnitude. -/
theorem near_val (D r : Nat) : Near D (val r * 2 ^ D) r := by
  have hp := Nat.two_pow_pos D
  have h2 : val r * 2 ^ D < val (r + 1) * 2 ^ D := Nat.mul_lt_mul_of_pos_right (val_lt (Nat.lt_succ_self r)) hp
  refine ⟨fun s hs => ?_, fun s hs he => ?_, ?_, fun he => ?_⟩
  · have h1 : val s * 2 ^ D < val r * 2 ^ D := Nat.mul_lt_mul_of_pos_right (val_lt (by omega)) hp
    rw [Nat.add_mul]; omega
  · have h1 : val s * 2 ^ D < val r * 2 ^ D := Nat.mul_lt_mul_of_pos_right (val_lt (by omega)) hp
    rw [Nat.add_mul] at he; omega
  · rw [Nat.add_mul]; omega
  · rw [Nat.add_mul] at he; omega
/-- In finer units. -/
theorem Near.scale {D X r : Nat} (h : Near D X r) (e : Nat) : Near (D + e) (X * 2 ^ e) r := by
  have hp := Nat.two_pow_pos e
  have hc : ∀ v : Nat, v * 2 ^ (D + e) = v * 2 ^ D * 2 ^ e := fun v => by rw [Nat.pow_add, Nat.mul_assoc]
  have hx : 2 * (X * 2 ^ e) = 2 * X * 2 ^ e := by rw [Nat.mul_assoc]
  refine ⟨fun s hs => ?_, fun s hs he => ?_, ?_, fun he => ?_⟩
  · rw [hc, hx]; exact Nat.mul_le_mul_right _ (h.lo s hs)
  · rw [hc, hx] at he; exact h.loE s hs (Nat.eq_of_mul_eq_mul_right hp he)
  · rw [hc, hx]; exact Nat.mul_le_mul_right _ h.hi
  · rw [hc, hx] at he; exact h.hiE (Nat.eq_of_mul_eq_mul_right hp he)
theorem Near.unscale {D X r e : Nat} (h : Near (D + e) (X * 2 ^ e) r) : Near D X r := by
  have hp := Nat.two_pow_pos e
  have hc : ∀ v : Nat, v * 2 ^ (D + e) = v * 2 ^ D * 2 ^ e := fun v => by rw [Nat.pow_add, Nat.mul_assoc]
  have hx : 2 * (X * 2 ^ e) = 2 * X * 2 ^ e := by rw [Nat.mul_assoc]
  refine ⟨fun s hs => ?_, fun s hs he => ?_, ?_, fun he => ?_⟩
  · have := h.lo s hs; rw [hc, hx] at this; exact Nat.le_of_mul_le_mul_right this hp
  · exact h.loE s hs (by rw [hc, hx, he])
  · have := h.hi; rw [hc, hx] at this; exact Nat.le_of_mul_le_mul_right this hp
  · exact h.hiE (by rw [hc, hx, he])

/-- What the way to the nearest whole number gives. -/
theorem cut_even (neg : Bool) (n drop : Nat) : ∃ k, Toward.even.cut neg n drop = k ∧ 2 * (k * 2 ^ drop) ≤ 2 * n + 2 ^ drop ∧ (2 * (k * 2 ^ drop) = 2 * n + 2 ^ drop → k % 2 = 0) ∧
    2 * n ≤ 2 * (k * 2 ^ drop) + 2 ^ drop ∧ (2 * n = 2 * (k * 2 ^ drop) + 2 ^ drop → k % 2 = 0) ∧ n / 2 ^ drop ≤ k ∧ k ≤ n / 2 ^ drop + 1 := by
  unfold Toward.cut
  simp only [Nat.one_shiftLeft]
  by_cases h : drop ≤ n.log2 + 2
  · rw [Nat.min_eq_left h]
    obtain ⟨g, hg⟩ : ∃ g, 2 ^ drop = g := ⟨_, rfl⟩
    have hpos : 0 < g := by rw [← hg]; exact Nat.two_pow_pos _
    rw [hg]
    obtain ⟨low, hlow⟩ : ∃ low, n / g = low := ⟨_, rfl⟩
    obtain ⟨rest, hrest⟩ : ∃ rest, n % g = rest := ⟨_, rfl⟩
    have hn : n = low * g + rest := by rw [← hlow, ← hrest, Nat.mul_comm]; exact (Nat.div_add_mod n g).symm
    have hr : rest < g := by rw [← hrest]; exact Nat.mod_lt _ hpos
    rw [hlow, hrest]
    by_cases h1 : g < 2 * rest
    · refine ⟨low + 1, by simp [h1], ?_⟩
      rw [Nat.add_mul, Nat.one_mul]
      refine ⟨by omega, fun h => by omega, by omega, fun h => by omega, by omega, by omega⟩
    · by_cases h2 : g = 2 * rest ∧ low % 2 = 1
      · refine ⟨low + 1, by simp [h2.1, h2.2], ?_⟩
        rw [Nat.add_mul, Nat.one_mul]
        refine ⟨by omega, fun h => by omega, by omega, fun h => by omega, by omega, by omega⟩
      · refine ⟨low, ?_, by omega, fun h => by omega, by omega, fun h => ?_, by omega, by omega⟩
        · have e : (decide (g < 2 * rest) || (g == 2 * rest && low % 2 == 1)) = false := by
            rw [Bool.or_eq_false_iff]
            refine ⟨decide_eq_false h1, ?_⟩
            rw [Bool.and_eq_false_iff]
            by_cases h3 : g = 2 * rest
            · right; simp; omega
            · left; simpa using h3
          rw [e]
          rfl
        · have : g = 2 * rest := by omega
          have : ¬ low % 2 = 1 := fun h3 => h2 ⟨this, h3⟩
          omega
  · rw [Nat.min_eq_right (by omega)]
    have h1 : n < 2 ^ (n.log2 + 1) := Nat.lt_log2_self
    have h2 : 2 ^ (n.log2 + 2) = 2 * 2 ^ (n.log2 + 1) := by rw [Nat.pow_succ]; omega
    have h3 : 2 ^ (n.log2 + 2) ≤ 2 ^ drop := Nat.pow_le_pow_right (by decide) (by omega)
    have e1 : n / 2 ^ (n.log2 + 2) = 0 := Nat.div_eq_of_lt (by omega)
    have e2 : n % 2 ^ (n.log2 + 2) = n := Nat.mod_eq_of_lt (by omega)
    have e3 : n / 2 ^ drop = 0 := Nat.div_eq_of_lt (by omega)
    rw [e1, e2, e3]
    have e : (decide (2 ^ (n.log2 + 2) < 2 * n) || (2 ^ (n.log2 + 2) == 2 * n && 0 % 2 == 1)) = false := by
      rw [Bool.or_eq_false_iff]
      exact ⟨decide_eq_false (by omega), by simp⟩
    rw [e]
    refine ⟨0, rfl, by omega, fun _ => rfl, by omega, fun _ => rfl, by omega, by omega⟩

/-- The magnitude of a rung that is given by its place and its digits. -/
theorem val_at {L k : Nat} (h : L = 0 ∨ 2 ^ 52 ≤ k) (hk : k ≤ 2 ^ 53) : val (L * 2 ^ 52 + k) = k * 2 ^ L := by
  unfold val mg pl
  by_cases h1 : k < 2 ^ 52
  · obtain rfl : L = 0 := by omega
    have e : (0 * 2 ^ 52 + k) / 2 ^ 52 = 0 := Nat.div_eq_of_lt (by omega)
    rw [e, if_pos (by omega)]
    omega
  · rw [if_neg (by omega)]
    by_cases h2 : k < 2 ^ 53
    · have e1 : (L * 2 ^ 52 + k) / 2 ^ 52 = L + 1 := by omega
      have e2 : (L * 2 ^ 52 + k) % 2 ^ 52 = k - 2 ^ 52 := by omega
      have e3 : 2 ^ 52 + (k - 2 ^ 52) = k := by omega
      rw [e1, e2, e3]
      rfl
    · have e1 : (L * 2 ^ 52 + k) / 2 ^ 52 = L + 2 := by omega
      have e2 : (L * 2 ^ 52 + k) % 2 ^ 52 = 0 := by omega
      have e3 : k = 2 ^ 52 * 2 := by omega
      rw [e1, e2, e3]
      show (2 ^ 52 + 0) * (2 ^ L * 2) = 2 ^ 52 * 2 * 2 ^ L
      rw [Nat.add_zero, Nat.mul_assoc, Nat.mul_comm 2 (2 ^ L)]

/-- The rung that rounding gives, ahead of the greatest. -/
def rnd (m : Nat) (p : Int) : Nat :=
  if m = 0 then 0 else
  (max (p + m.log2 - 52) (-1074) - (-1074)).toNat * 2 ^ 52 + Toward.even.cut false (m <<< (p - max (p + m.log2 - 52) (-1074)).toNat) (max (p + m.log2 - 52) (-1074) - p).toNat

theorem cut_neg (a b : Bool) (n d : Nat) : Toward.even.cut a n d = Toward.even.cut b n d := rfl
theorem nearest_eq (neg : Bool) (m : Nat) (p : Int) : double.nearest neg m p = double.word neg (min (rnd m p) infR) := by
  unfold Format.nearest rnd
  simp only [binadeW, infW, leastW]
  by_cases h : m = 0
  · rw [if_pos h, if_pos h, Nat.zero_min]
  · rw [if_neg h, if_neg h]
    rfl

/-- It is the nearest. -/
theorem rnd_near (m : Nat) (p : Int) (D P : Nat) (hP : p + 1074 + D = P) : Near D (m * 2 ^ P) (rnd m p) := by
  by_cases h0 : m = 0
  · subst h0
    have e : rnd 0 p = 0 := by unfold rnd; rw [if_pos rfl]
    rw [e, Nat.zero_mul]
    have := near_val D 0
    rw [val_zero, Nat.zero_mul] at this
    exact this
  unfold rnd
  rw [if_neg h0]
  obtain ⟨last, hlast⟩ : ∃ last, max (p + (m.log2 : Int) - 52) (-1074) = last := ⟨_, rfl⟩
  rw [hlast]
  obtain ⟨a, ha⟩ : ∃ a, (p - last).toNat = a := ⟨_, rfl⟩
  obtain ⟨drop, hdrop⟩ : ∃ drop, (last - p).toNat = drop := ⟨_, rfl⟩
  obtain ⟨L, hL⟩ : ∃ L, (last - (-1074)).toNat = L := ⟨_, rfl⟩
  rw [ha, hdrop, hL, Nat.shiftLeft_eq]
  obtain ⟨n, hn⟩ : ∃ n, m * 2 ^ a = n := ⟨_, rfl⟩
  rw [hn]
  obtain ⟨lg, hlg⟩ : ∃ lg, m.log2 = lg := ⟨_, rfl⟩
  rw [hlg] at hlast
  have hm1 : 2 ^ lg ≤ m := by rw [← hlg]; exact Nat.log2_self_le h0
  have hm2 : m < 2 ^ (lg + 1) := by rw [← hlg]; exact Nat.lt_log2_self
  have hn1 : 2 ^ (lg + a) ≤ n := by rw [← hn, Nat.pow_add]; exact Nat.mul_le_mul_right _ hm1
  have hn2 : n < 2 ^ (lg + 1 + a) := by rw [← hn, Nat.pow_add]; exact Nat.mul_lt_mul_of_pos_right hm2 (Nat.two_pow_pos _)
  have hhi : n < 2 ^ 53 * 2 ^ drop := by
    rw [← Nat.pow_add]
    exact Nat.lt_of_lt_of_le hn2 (Nat.pow_le_pow_right (by decide) (by omega))
  have hlo : L = 0 ∨ 2 ^ 52 * 2 ^ drop ≤ n := by
    by_cases hL0 : L = 0
    · exact .inl hL0
    · right
      rw [← Nat.pow_add]
      exact Nat.le_trans (Nat.pow_le_pow_right (by decide) (by omega)) hn1
  have hX : n * 2 ^ (L + D) = m * 2 ^ P * 2 ^ drop := by
    rw [← hn, Nat.mul_assoc, Nat.mul_assoc, ← Nat.pow_add, ← Nat.pow_add]
    congr 2
    omega
  obtain ⟨X, hXX⟩ : ∃ X, m * 2 ^ P = X := ⟨_, rfl⟩
  rw [hXX] at hX ⊢
  obtain ⟨k, hk, k1, k2, k3, k4, k5, k6⟩ := cut_even false n drop
  rw [hk]
  have dpos := Nat.two_pow_pos drop
  have kle : k ≤ 2 ^ 53 := by
    have : n / 2 ^ drop < 2 ^ 53 := (Nat.div_lt_iff_lt_mul dpos).2 hhi
    omega
  have kge : L = 0 ∨ 2 ^ 52 ≤ k := by
    rcases hlo with h | h
    · exact .inl h
    · right
      have : 2 ^ 52 ≤ n / 2 ^ drop := (Nat.le_div_iff_mul_le dpos).2 h
      omega
  have hv := val_at kge kle
  obtain ⟨G, hG⟩ : ∃ G, 2 ^ (L + D) = G := ⟨_, rfl⟩
  have Gpos : 0 < G := by rw [← hG]; exact Nat.two_pow_pos _
  have hGD : 2 ^ L * 2 ^ D = G := by rw [← hG, Nat.pow_add]
  rw [hG] at hX
  obtain ⟨T, hT⟩ : ∃ T, 2 ^ drop = T := ⟨_, rfl⟩
  rw [hT] at hX k1 k2 k3 k4 hhi hlo dpos
  have hpar : (L * 2 ^ 52 + k) % 2 = k % 2 := by omega
  refine ⟨fun s hs => ?_, fun s hs he => ?_, ?_, fun he => ?_⟩
  · by_cases hc : L = 0 ∨ 2 ^ 52 < k
    · have hs' : s = L * 2 ^ 52 + (k - 1) := by omega
      have hvs : val s = (k - 1) * 2 ^ L := by rw [hs']; exact val_at (by omega) (by omega)
      rw [hv, hvs, ← Nat.add_mul, Nat.mul_assoc, hGD]
      refine Nat.le_of_mul_le_mul_right (c := T) ?_ dpos
      have e1 : 2 * X * T = 2 * n * G := by rw [Nat.mul_assoc, ← hX, Nat.mul_assoc]
      have e2 : (k - 1 + k) * G * T = (k - 1 + k) * T * G := by rw [Nat.mul_assoc, Nat.mul_comm G T, ← Nat.mul_assoc]
      rw [e1, e2]
      refine Nat.mul_le_mul_right _ ?_
      have e3 : (k - 1 + k) * T + T = 2 * (k * T) := by
        have : k - 1 + k + 1 = 2 * k := by omega
        rw [← Nat.mul_assoc, ← this, Nat.add_mul (k - 1 + k) 1, Nat.one_mul]
      omega
    · have hk2 : k = 2 ^ 52 := by omega
      have hge : 2 ^ 52 * T ≤ n := by omega
      have h1 : val (L * 2 ^ 52 + k) * 2 ^ D ≤ X := by
        rw [hv, Nat.mul_assoc, hGD, hk2]
        refine Nat.le_of_mul_le_mul_right (c := T) ?_ dpos
        rw [← hX, Nat.mul_assoc, Nat.mul_comm G T, ← Nat.mul_assoc]
        exact Nat.mul_le_mul_right _ hge
      have h2 : val s * 2 ^ D < val (L * 2 ^ 52 + k) * 2 ^ D := Nat.mul_lt_mul_of_pos_right (val_lt (by omega)) (Nat.two_pow_pos _)
      rw [Nat.add_mul]
      omega
  · rw [hpar]
    by_cases hc : L = 0 ∨ 2 ^ 52 < k
    · have hs' : s = L * 2 ^ 52 + (k - 1) := by omega
      have hvs : val s = (k - 1) * 2 ^ L := by rw [hs']; exact val_at (by omega) (by omega)
      rw [hv, hvs, ← Nat.add_mul, Nat.mul_assoc, hGD] at he
      refine k2 ?_
      have e1 : 2 * X * T = 2 * n * G := by rw [Nat.mul_assoc, ← hX, Nat.mul_assoc]
      have e2 : (k - 1 + k) * G * T = (k - 1 + k) * T * G := by rw [Nat.mul_assoc, Nat.mul_comm G T, ← Nat.mul_assoc]
      rw [← he, e2] at e1
      have e4 := Nat.eq_of_mul_eq_mul_right Gpos e1
      have e3 : (k - 1 + k) * T + T = 2 * (k * T) := by
        have : k - 1 + k + 1 = 2 * k := by omega
        rw [← Nat.mul_assoc, ← this, Nat.add_mul (k - 1 + k) 1, Nat.one_mul]
      omega
    · have hk2 : k = 2 ^ 52 := by omega
      rw [hk2]
  · by_cases hc : k < 2 ^ 53
    · have hvs : val (L * 2 ^ 52 + k + 1) = (k + 1) * 2 ^ L := by rw [Nat.add_assoc]; exact val_at (by omega) (by omega)
      rw [hv, hvs, ← Nat.add_mul, Nat.mul_assoc, hGD]
      refine Nat.le_of_mul_le_mul_right (c := T) ?_ dpos
      have e1 : 2 * X * T = 2 * n * G := by rw [Nat.mul_assoc, ← hX, Nat.mul_assoc]
      have e2 : (k + (k + 1)) * G * T = (k + (k + 1)) * T * G := by rw [Nat.mul_assoc, Nat.mul_comm G T, ← Nat.mul_assoc]
      rw [e1, e2]
      refine Nat.mul_le_mul_right _ ?_
      have e3 : (k + (k + 1)) * T = 2 * (k * T) + T := by
        have : k + (k + 1) = 2 * k + 1 := by omega
        rw [← Nat.mul_assoc, this, Nat.add_mul, Nat.one_mul]
      omega
    · have hk2 : k = 2 ^ 53 := by omega
      have h1 : X < val (L * 2 ^ 52 + k) * 2 ^ D := by
        rw [hv, Nat.mul_assoc, hGD, hk2]
        refine Nat.lt_of_mul_lt_mul_right (a := T) ?_
        rw [← hX, Nat.mul_assoc, Nat.mul_comm G T, ← Nat.mul_assoc]
        exact Nat.mul_lt_mul_of_pos_right hhi Gpos
      have h2 : val (L * 2 ^ 52 + k) * 2 ^ D ≤ val (L * 2 ^ 52 + k + 1) * 2 ^ D := Nat.mul_le_mul_right _ (val_le (by omega))
      rw [Nat.add_mul]
      omega
  · rw [hpar]
    by_cases hc : k < 2 ^ 53
    · have hvs : val (L * 2 ^ 52 + k + 1) = (k + 1) * 2 ^ L := by rw [Nat.add_assoc]; exact val_at (by omega) (by omega)
      rw [hv, hvs, ← Nat.add_mul, Nat.mul_assoc, hGD] at he
      refine k4 ?_
      have e1 : 2 * X * T = 2 * n * G := by rw [Nat.mul_assoc, ← hX, Nat.mul_assoc]
      have e2 : (k + (k + 1)) * G * T = (k + (k + 1)) * T * G := by rw [Nat.mul_assoc, Nat.mul_comm G T, ← Nat.mul_assoc]
      rw [he, e2] at e1
      have e4 := Nat.eq_of_mul_eq_mul_right Gpos e1
      have e3 : (k + (k + 1)) * T = 2 * (k * T) + T := by
        have : k + (k + 1) = 2 * k + 1 := by omega
        rw [← Nat.mul_assoc, this, Nat.add_mul, Nat.one_mul]
      omega
    · have hk2 : k = 2 ^ 53 := by omega
      rw [hk2]

/-- What is a rung's magnitude is rounded to it. -/
theorem rnd_val {m r : Nat} {p : Int} (D P : Nat) (hP : p + 1074 + D = P) (h : m * 2 ^ P = val r * 2 ^ D) : rnd m p = r := by
  have h1 := rnd_near m p D P hP
  rw [h] at h1
  exact h1.unique (near_val D r)
end Go.Proofs.Ytoodbdjmbicaeaa
