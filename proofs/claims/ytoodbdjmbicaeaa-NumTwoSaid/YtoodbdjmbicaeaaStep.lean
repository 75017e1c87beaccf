/- Whole numbers of words: floor, ceiling, whole part. No condition. -/
import Derived.Test.YtoodbdjmbicaeaaOrd
namespace Go.Proofs.Ytoodbdjmbicaeaa
open Ieee

/-- One, in units of the least place. -/
def pow2 (n : Nat) : Nat := 2 ^ n
def U1 : Nat := pow2 1074
theorem pow2_eq (n : Nat) : pow2 n = 2 ^ n := rfl
theorem U1_of {n : Nat} (h : n = 1074) : U1 = 2 ^ n := by
  rw [← pow2_eq, h]
  rfl
theorem U1_pos : 0 < U1 := by
  obtain ⟨n, hn⟩ : ∃ n, n = 1074 := ⟨_, rfl⟩
  rw [U1_of hn]
  exact Nat.two_pow_pos n
theorem U1_split {p : Nat} (h : p ≤ 1074) : U1 = 2 ^ (1074 - p) * 2 ^ p := by
  rw [← Nat.pow_add]
  exact U1_of (by omega)
theorem U1_more {p : Nat} (h : 1074 ≤ p) : 2 ^ p = 2 ^ (p - 1074) * U1 := by
  obtain ⟨n, hn⟩ : ∃ n, n = 1074 := ⟨_, rfl⟩
  rw [U1_of hn, ← Nat.pow_add]
  congr 1
  omega
/-- Is something left over, of a number of that sign, by the way? -/
def carry (way : Toward) (neg rest : Bool) : Bool := match way with | .down => neg && rest | .up => !neg && rest | _ => false

theorem cut_way {way : Toward} (hw : way ≠ .even) (neg : Bool) (n drop : Nat) : way.cut neg n drop = n / 2 ^ drop + (carry way neg (n % 2 ^ drop != 0)).toNat := by
  have key : ∀ g, 2 ^ min drop (n.log2 + 2) = g → n / g = n / 2 ^ drop ∧ n % g = n % 2 ^ drop := by
    intro g hg
    by_cases h : drop ≤ n.log2 + 2
    · rw [Nat.min_eq_left h] at hg
      rw [hg]; exact ⟨rfl, rfl⟩
    · rw [Nat.min_eq_right (by omega)] at hg
      have h1 : n < 2 ^ (n.log2 + 1) := Nat.lt_log2_self
      have h2 : 2 ^ (n.log2 + 1) ≤ g := by rw [← hg]; exact Nat.pow_le_pow_right (by decide) (by omega)
      have h3 : 2 ^ (n.log2 + 1) ≤ 2 ^ drop := Nat.pow_le_pow_right (by decide) (by omega)
      rw [Nat.div_eq_of_lt (by omega), Nat.div_eq_of_lt (by omega), Nat.mod_eq_of_lt (by omega), Nat.mod_eq_of_lt (by omega)]
      exact ⟨rfl, rfl⟩
  unfold Toward.cut
  simp only [Nat.one_shiftLeft]
  obtain ⟨k1, k2⟩ := key _ rfl
  rw [k1, k2]
  cases way
  · exact absurd rfl hw
  · rfl
  · rfl
  · rfl

/-- A whole number that is not great is a rung's magnitude. -/
theorem rnd_int {k : Nat} (hk : k ≤ 2 ^ 53) : ∃ r, r < infR ∧ val r = k * U1 := by
  by_cases h0 : k = 0
  · exact ⟨0, by decide, by rw [val_zero, h0, Nat.zero_mul]⟩
  have h1 := Nat.log2_self_le h0
  have h2 : k < 2 ^ (k.log2 + 1) := Nat.lt_log2_self
  have hi := infR_eq
  by_cases h3 : k.log2 ≤ 52
  · obtain ⟨lg, hlg⟩ : ∃ lg, k.log2 = lg := ⟨_, rfl⟩
    rw [hlg] at h1 h2 h3
    have e1 : 2 ^ lg * 2 ^ (52 - lg) = 2 ^ 52 := by rw [← Nat.pow_add]; congr 1; omega
    have e2 : 2 ^ (lg + 1) * 2 ^ (52 - lg) = 2 ^ 53 := by rw [← Nat.pow_add]; congr 1; omega
    have a1 : 2 ^ 52 ≤ k * 2 ^ (52 - lg) := by rw [← e1]; exact Nat.mul_le_mul_right _ h1
    have a2 : k * 2 ^ (52 - lg) ≤ 2 ^ 53 := by rw [← e2]; exact Nat.mul_le_mul_right _ (Nat.le_of_lt h2)
    refine ⟨(1022 + lg) * 2 ^ 52 + k * 2 ^ (52 - lg), by omega, ?_⟩
    rw [val_at (.inr a1) a2, Nat.mul_assoc, ← Nat.pow_add, U1_of (n := 52 - lg + (1022 + lg)) (by omega)]
  · have hk2 : k = 2 ^ 53 := by
      have : 2 ^ 53 ≤ 2 ^ k.log2 := Nat.pow_le_pow_right (by decide) (by omega)
      omega
    obtain ⟨n, hn⟩ : ∃ n, n = 1074 := ⟨_, rfl⟩
    exact ⟨n * 2 ^ 52 + k, by omega, by rw [U1_of hn]; exact val_at (L := n) (.inr (by omega)) (by omega)⟩

theorem rnd_one {k r : Nat} (h : k * U1 = val r) : rnd k 0 = r := by
  obtain ⟨n, hn⟩ : ∃ n, n = 1074 := ⟨_, rfl⟩
  exact rnd_val 0 n (by omega) (by rw [← U1_of hn, Nat.pow_zero, Nat.mul_one]; exact h)
theorem val_one {o : Nat} (h : o = 1022 * 2 ^ 52 + 2 ^ 52) : val o = U1 := by
  obtain ⟨l, hl⟩ : ∃ l, l = 1022 := ⟨_, rfl⟩
  have e : o = l * 2 ^ 52 + 2 ^ 52 := by rw [h, hl]
  rw [e, val_at (L := l) (k := 2 ^ 52) (.inr (Nat.le_refl _)) (by omega), ← Nat.pow_add]
  exact (U1_of (by omega)).symm

/-- A finite number made whole, by a way that is no rounding: the magnitude is exact. -/
theorem whole_fin {way : Toward} (hw : way ≠ .even) {a : Nat} (hf : rung a < infR) : ∃ r, r < infR ∧
    double.write ((double.read a).integral way) = double.word (isNeg a) r ∧
    val r = (val (rung a) / U1 + (carry way (isNeg a) (val (rung a) % U1 != 0)).toNat) * U1 := by
  rw [read_num hf]
  show ∃ r, r < infR ∧ double.write (.number (isNeg a) (way.cut (isNeg a) (mg (rung a) <<< (-1074 + (pl (rung a) : Int)).toNat) (-(-1074 + (pl (rung a) : Int))).toNat) 0) = _ ∧ _
  rw [write_num, cut_way hw]
  obtain ⟨m, hm⟩ : ∃ m, mg (rung a) = m := ⟨_, rfl⟩
  obtain ⟨p, hp⟩ : ∃ p, pl (rung a) = p := ⟨_, rfl⟩
  have hml : m < 2 ^ 53 := by rw [← hm]; exact mg_lt _
  have hv : val (rung a) = m * 2 ^ p := by unfold val; rw [hm, hp]
  rw [hm, hp]
  by_cases hbig : 1074 ≤ p
  · have e1 : (-1074 + (p : Int)).toNat = p - 1074 := by omega
    have e2 : (-(-1074 + (p : Int))).toNat = 0 := by omega
    have e3 : val (rung a) = (m * 2 ^ (p - 1074)) * U1 := by
      rw [hv, Nat.mul_assoc, ← U1_more hbig]
    have e4 : val (rung a) / U1 = m * 2 ^ (p - 1074) := by rw [e3]; exact Nat.mul_div_cancel _ U1_pos
    have e5 : val (rung a) % U1 = 0 := by rw [e3]; exact Nat.mul_mod_left _ _
    have hc : carry way (isNeg a) false = false := by unfold carry; cases way <;> simp
    rw [e1, e2, e4, e5, Nat.shiftLeft_eq, Nat.pow_zero, Nat.div_one, Nat.mod_one]
    rw [show ((0 : Nat) != 0) = false from rfl, hc, Bool.toNat_false, Nat.add_zero]
    refine ⟨rung a, hf, ?_, e3⟩
    have h1 : rnd (m * 2 ^ (p - 1074)) 0 = rung a := rnd_one e3.symm
    rw [h1, Nat.min_eq_left (by omega)]
  · have e1 : (-1074 + (p : Int)).toNat = 0 := by omega
    have e2 : (-(-1074 + (p : Int))).toNat = 1074 - p := by omega
    have e6 : U1 = 2 ^ (1074 - p) * 2 ^ p := U1_split (by omega)
    have e4 : val (rung a) / U1 = m / 2 ^ (1074 - p) := by rw [hv, e6]; exact Nat.mul_div_mul_right _ _ (Nat.two_pow_pos _)
    have e5 : val (rung a) % U1 = m % 2 ^ (1074 - p) * 2 ^ p := by rw [hv, e6]; exact Nat.mul_mod_mul_right _ _ _
    have e7 : (val (rung a) % U1 != 0) = (m % 2 ^ (1074 - p) != 0) := by
      rw [e5]
      have hpp := Nat.two_pow_pos p
      by_cases h0 : m % 2 ^ (1074 - p) = 0
      · rw [h0, Nat.zero_mul]
      · have h1 : m % 2 ^ (1074 - p) * 2 ^ p ≠ 0 := Nat.mul_ne_zero h0 (by omega)
        rw [bne_iff_ne.2 h0, bne_iff_ne.2 h1]
    rw [e1, e2, e4, e7, Nat.shiftLeft_eq, Nat.pow_zero, Nat.mul_one]
    obtain ⟨k, hk⟩ : ∃ k, m / 2 ^ (1074 - p) + (carry way (isNeg a) (m % 2 ^ (1074 - p) != 0)).toNat = k := ⟨_, rfl⟩
    have hkl : k ≤ 2 ^ 53 := by
      have h1 : m / 2 ^ (1074 - p) ≤ m := Nat.div_le_self _ _
      have h2 : (carry way (isNeg a) (m % 2 ^ (1074 - p) != 0)).toNat ≤ 1 := Bool.toNat_le _
      omega
    rw [hk]
    obtain ⟨r, hr, hvr⟩ := rnd_int hkl
    refine ⟨r, hr, ?_, hvr⟩
    have h1 : rnd k 0 = r := rnd_one hvr.symm
    rw [h1, Nat.min_eq_left (by omega)]

/-- What Floor, Ceil, Trunc give. -/
def wayV (way : Toward) (a : Nat) : Nat := if nanW a then theNaN else bitsW (double.write ((double.read a).integral way))

theorem wayV_fin {way : Toward} (hw : way ≠ .even) {a : Nat} (hf : rung a < infR) : ∃ r, r < infR ∧ wayV way a = double.word (isNeg a) r ∧
    val r = (val (rung a) / U1 + (carry way (isNeg a) (val (rung a) % U1 != 0)).toNat) * U1 := by
  obtain ⟨r, h1, h2, h3⟩ := whole_fin hw hf
  refine ⟨r, h1, ?_, h3⟩
  unfold wayV
  rw [nan_of (by omega)]
  show bitsW _ = _
  rw [h2]
  exact bitsW_of (nan_word (by omega))
theorem wayV_inf {way : Toward} {a : Nat} (ha : a < 2 ^ 64) (hi : rung a = infR) : wayV way a = a := by
  unfold wayV
  rw [nan_of (by omega), read_inf hi]
  show bitsW (double.write (.infinity (isNeg a))) = a
  rw [write_inf, ← hi, word_split ha]
  exact bitsW_of (nan_of (by omega))
theorem wayV_nan {way : Toward} {a : Nat} (hn : nanW a = true) : wayV way a = theNaN := by
  unfold wayV
  rw [hn]
  rfl
theorem ival_word {s : Bool} {r : Nat} (h : r < 2 ^ 63) : ival (double.word s r) = if s then -(val r : Int) else (val r : Int) := by
  unfold ival
  rw [isNeg_word h, rung_word h]

/-- The law NumSteps of what is finite. -/
theorem steps_law {a : Nat} (hf : rung a < infR) :
    cmpC (wayV .down a) a ≤ 0 ∧ cmpC a (wayV .up a) ≤ 0 ∧ cmpC (opt (double.sub (wayV .up a) (wayV .down a))) oneW ≤ 0 ∧
    wayV .down (wayV .down a) = wayV .down a ∧ wayV .up (wayV .down a) = wayV .down a ∧ wayV .zero (wayV .up a) = wayV .up a ∧
    cmpC (absV (wayV .zero a)) (absV a) ≤ 0 ∧ (wayV .zero a = wayV .down a ∨ wayV .zero a = wayV .up a) := by
  have hi := infR_eq
  obtain ⟨f, f1, f2, f3⟩ := wayV_fin (way := .down) (by decide) hf
  obtain ⟨c, c1, c2, c3⟩ := wayV_fin (way := .up) (by decide) hf
  obtain ⟨t, t1, t2, t3⟩ := wayV_fin (way := .zero) (by decide) hf
  have na : nanW a = false := nan_of (by omega)
  have cle : ∀ x y, nanW x = false → nanW y = false → ival x ≤ ival y → cmpC x y ≤ 0 := by
    intro x y hx hy h
    rw [(cmp_not hx hy).1]
    split
    · omega
    · rw [if_neg (by omega)]; omega
  have nw : ∀ s r, r < infR → nanW (double.word s r) = false := fun s r h => nan_word (by omega)
  obtain ⟨U, hU⟩ : ∃ U, U1 = U := ⟨_, rfl⟩
  have Upos : 0 < U := by rw [← hU]; exact U1_pos
  rw [hU] at f3 c3 t3
  obtain ⟨q, hq⟩ : ∃ q, val (rung a) / U = q := ⟨_, rfl⟩
  obtain ⟨e, he⟩ : ∃ e, val (rung a) % U = e := ⟨_, rfl⟩
  have hve : val (rung a) = q * U + e := by rw [← hq, ← he, Nat.mul_comm]; exact (Nat.div_add_mod _ _).symm
  have hel : e < U := by rw [← he]; exact Nat.mod_lt _ Upos
  rw [hq, he] at f3 c3 t3
  -- of what is whole already
  have again : ∀ (way : Toward) (s : Bool) (r k : Nat), way ≠ .even → r < infR → val r = k * U → wayV way (double.word s r) = double.word s r := by
    intro way s r k hw hr hv
    have hrs : rung (double.word s r) = r := rung_word (by omega)
    obtain ⟨r', h1, h2, h3⟩ := wayV_fin hw (a := double.word s r) (by rw [hrs]; exact hr)
    rw [hU, hrs, hv, Nat.mul_div_cancel _ Upos, Nat.mul_mod_left] at h3
    have hc : carry way (isNeg (double.word s r)) (0 != 0) = false := by unfold carry; cases way <;> simp
    rw [hc, Bool.toNat_false, Nat.add_zero, ← hv] at h3
    rw [h2, val_inj h3, isNeg_word (by omega)]
  have valt : val t = q * U := by rw [t3]; unfold carry; rw [Bool.toNat_false, Nat.add_zero]
  have cases4 : (isNeg a = false ∧ val f = q * U ∧ (e = 0 ∧ val c = q * U ∨ e ≠ 0 ∧ val c = q * U + U)) ∨ (isNeg a = true ∧ val c = q * U ∧ (e = 0 ∧ val f = q * U ∨ e ≠ 0 ∧ val f = q * U + U)) := by
    rw [f3, c3]
    cases isNeg a
    · left
      refine ⟨rfl, by simp [carry], ?_⟩
      by_cases h : e = 0
      · left; exact ⟨h, by simp [carry, h]⟩
      · right; exact ⟨h, by simp [carry, bne_iff_ne.2 h, Nat.add_mul]⟩
    · right
      refine ⟨rfl, by simp [carry], ?_⟩
      by_cases h : e = 0
      · left; exact ⟨h, by simp [carry, h]⟩
      · right; exact ⟨h, by simp [carry, bne_iff_ne.2 h, Nat.add_mul]⟩
  have ia : ival a = if isNeg a then -(val (rung a) : Int) else (val (rung a) : Int) := rfl
  have i_f : ival (double.word (isNeg a) f) = if isNeg a then -(val f : Int) else (val f : Int) := ival_word (by omega)
  have i_c : ival (double.word (isNeg a) c) = if isNeg a then -(val c : Int) else (val c : Int) := ival_word (by omega)
  rw [f2, c2, t2]
  refine ⟨cle _ _ (nw _ _ f1) na ?_, cle _ _ na (nw _ _ c1) ?_, ?_, again _ _ _ _ (by decide) f1 f3, again _ _ _ _ (by decide) f1 f3, again _ _ _ _ (by decide) c1 c3, ?_, ?_⟩
  · rw [i_f, ia]
    rcases cases4 with ⟨hs, h1, h2⟩ | ⟨hs, h1, h2⟩ <;> rw [hs] <;> simp only [Bool.false_eq_true, if_true, if_false] <;> omega
  · rw [i_c, ia]
    rcases cases4 with ⟨hs, h1, h2⟩ | ⟨hs, h1, h2⟩ <;> rw [hs] <;> simp only [Bool.false_eq_true, if_true, if_false] <;> omega
  · have hwl : double.word (isNeg a) f < 2 ^ 64 := word_lt' (by omega)
    rw [sub_flip hwl]
    have hrc : rung (double.word (isNeg a) c) = c := rung_word (by omega)
    have hrf : rung (double.word (isNeg a) f) = f := rung_word (by omega)
    obtain ⟨r, hr, e1⟩ := add_fin (a := double.word (isNeg a) c) (b := flip (double.word (isNeg a) f)) (by omega) (by rw [rung_flip hwl]; omega)
    rw [ival_flip hwl, i_f, i_c] at hr e1
    obtain ⟨o, ho⟩ : ∃ o, 1022 * 2 ^ 52 + 2 ^ 52 = o := ⟨_, rfl⟩
    have hol : o = 4607182418800017408 := by rw [← ho]
    have hone : val o = U := by rw [← hU]; exact val_one ho.symm
    have hd : ∃ d, (if isNeg a then -(val c : Int) else (val c : Int)) + -(if isNeg a then -(val f : Int) else (val f : Int)) = (d : Nat) ∧ (d = 0 ∨ d = U) := by
      rcases cases4 with ⟨hs, h1, h2⟩ | ⟨hs, h1, h2⟩ <;> rw [hs] <;> simp only [Bool.false_eq_true, if_true, if_false]
      · rcases h2 with ⟨_, h2⟩ | ⟨_, h2⟩
        · exact ⟨0, by omega, .inl rfl⟩
        · exact ⟨U, by omega, .inr rfl⟩
      · rcases h2 with ⟨_, h2⟩ | ⟨_, h2⟩
        · exact ⟨0, by omega, .inl rfl⟩
        · exact ⟨U, by omega, .inr rfl⟩
    obtain ⟨d, hd1, hd2⟩ := hd
    rw [hd1] at hr e1
    have hrr : val r = d := by
      rcases hd2 with hd2 | hd2
      · rw [hd2] at hr ⊢
        rw [Near.zero hr]; exact val_zero
      · rw [hd2, ← hone] at hr
        rw [hd2, ← hone, Near.ofVal hr]
    have hr1 : r ≤ o := by
      refine Nat.le_of_not_lt fun h => ?_
      have := val_lt h
      omega
    rw [e1, Nat.min_eq_left (by omega), opt_word (by omega)]
    refine cle _ _ (nw _ _ (by omega)) (by decide) ?_
    have e2 : ival oneW = U := by
      show (if isNeg oneW then -(val (rung oneW) : Int) else (val (rung oneW) : Int)) = U
      rw [show isNeg oneW = false by decide, show rung oneW = o by rw [hol]; decide, hone]; rfl
    rw [e2, ival_word (by omega), hrr]
    split <;> omega
  · have habs : ∀ s r, r < infR → absV (double.word s r) = double.word false r := by
      intro s r h
      unfold absV
      have h1 : double.word s r % 2 ^ 63 = r := rung_word (by omega)
      rw [h1, word_eq, if_neg (by decide)]
      exact bitsW_of (nan_of (by unfold rung; rw [Nat.mod_eq_of_lt (by omega)]; omega))
    have haa : absV a = double.word false (rung a) := by
      unfold absV
      show bitsW (rung a) = _
      rw [word_eq, if_neg (by decide)]
      have := rung_lt a
      exact bitsW_of (nan_of (by unfold rung; rw [Nat.mod_mod]; exact Nat.le_of_lt hf))
    rw [habs _ _ t1, haa]
    refine cle _ _ (nw _ _ t1) (nw _ _ hf) ?_
    have := rung_lt a
    rw [ival_word (by omega), ival_word (by omega)]
    simp only [Bool.false_eq_true, if_false]
    omega
  · rcases cases4 with ⟨hs, h1, h2⟩ | ⟨hs, h1, h2⟩
    · left; rw [val_inj (show val t = val f by omega)]
    · right; rw [val_inj (show val t = val c by omega)]
end Go.Proofs.Ytoodbdjmbicaeaa
