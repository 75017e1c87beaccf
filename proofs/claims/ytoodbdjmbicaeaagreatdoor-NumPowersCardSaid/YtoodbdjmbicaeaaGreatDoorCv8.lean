/- Powers, the angle of a point, of both texts. Condition of one part: the library's table of trailing noughts as its initialiser lays it (TabW). -/
import Derived.Test.YtoodbdjmbicaeaaGreatDoorCv5
import Derived.Test.YtoodbdjmbicaeaaGreatDoorCv6
import Derived.Laws.Bits64b
import Derived.Lib.TrailingZeros
namespace Go.Proofs.YtoodbdjmbicaeaaGreatDoor
open Go.RowKit
set_option maxRecDepth 20000
set_option maxHeartbeats 2000000
set_option linter.unusedVariables false
set_option linter.unusedSimpArgs false

/-- The table of trailing noughts lies as it was laid. -/
def TabW (w : World) : Prop := ∀ j, j < 64 → w.cell? ⟨1, j, none⟩ = some (.int .u8 (Lib.deBruijn64tab.getD j 0))
theorem TabW.drew {w : World} (h : TabW w) (n : Nat) : TabW (w.drewN n) := h
theorem tz_key (x a : Nat) (hx : x < 18446744073709551616) (hx0 : x ≠ 0) (hlow : x &&& (18446744073709551616 - x) = a) :
    IntKind.u64.wrap (bits BinOp.and IntKind.u64 (x : Int) (IntKind.u64.wrap (-(x : Int))) * 285870213051353865) / 288230376151711744 = ((a * 285870213051353865 % 18446744073709551616 / 288230376151711744 : Nat) : Int) := by
  have e1 : IntKind.u64.wrap (-(x : Int)) = ((18446744073709551616 - x : Nat) : Int) := by rw [IntKind.wrap_u64]; omega
  rw [e1, bits_and_u64_nat x _ hx (by omega), hlow, IntKind.wrap_u64]
  omega
theorem ktz0 (x k idx : Nat) (w : World) (hx0 : ((x : Int) == 0) = false)
    (key : IntKind.u64.wrap (bits BinOp.and IntKind.u64 (x : Int) (IntKind.u64.wrap (-(x : Int))) * 285870213051353865) / 288230376151711744 = (idx : Int))
    (hi : idx < 64) (hk : k < 64) (hcell : w.cell? ⟨1, idx, none⟩ = some (.int .u8 k)) :
    Kp 59 #[wd x] w (.int .i64 k) := by
  go_enter Tryz.func59, Tryz.ntmps59
  go_wp2_with (simp only [key])
  go_ret
  exact ⟨rfl, rfl⟩
theorem ktz {x : Nat} (hx : x < 18446744073709551616) (hx0 : x ≠ 0) (w : World) (hT : TabW w) : Kp 59 #[wd x] w (.int .i64 (Lib.ctz 64 x)) := by
  obtain ⟨hlow, hk⟩ := Lib.lowest_bit 64 x hx0 hx
  obtain ⟨hi, htab⟩ := Lib.deBruijn64_at _ hk
  have hcell := hT _ hi
  rw [htab] at hcell
  exact ktz0 x _ _ w (by simp; omega) (tz_key x _ hx hx0 hlow) hi hk hcell
theorem ktz_odd {x : Nat} (hx : x < 18446744073709551616) (h : x % 2 = 1) (w : World) (hT : TabW w) : Kp 59 #[wd x] w (.int .i64 0) := by
  have h1 := ktz hx (by omega) w hT
  have e : Lib.ctz 64 x = 0 := by unfold Lib.ctz Lib.ctzFrom; rw [if_neg (by omega), if_pos h]
  rw [e] at h1
  exact h1
theorem ktz_even {x : Nat} (hx : x < 18446744073709551616) (h0 : x ≠ 0) (h : x % 2 ≠ 1) : ∃ K : Int, (K == 0) = false ∧ ∀ w, TabW w → Kp 59 #[wd x] w (.int .i64 K) := by
  refine ⟨(Lib.ctz 64 x : Nat), ?_, fun w hT => ktz hx h0 w hT⟩
  have e : Lib.ctz 64 x ≠ 0 := by unfold Lib.ctz Lib.ctzFrom; rw [if_neg (by omega), if_neg h]; omega
  simp; omega

def tms : Nat → Nat → Nat → Nat → Nat
  | 0, _, r, _ => r
  | f + 1, n, r, x => if n = 0 then r else tms f (n / 2) (if n % 2 = 1 then dM r x else r) (dM x x)
theorem tms_zero (f r x : Nat) : tms f 0 r x = r := by
  cases f
  · rfl
  · unfold tms; rw [if_pos rfl]
theorem tms_lt : ∀ (f n r x : Nat), r < 2 ^ 64 → tms f n r x < 2 ^ 64
  | 0, _, _, _, h => h
  | f + 1, n, r, x, h => by
    unfold tms
    split
    · exact h
    · split
      · exact tms_lt f _ _ _ (dM_lt _ _)
      · exact tms_lt f _ _ _ h
def powN (b : Nat) : Nat := (wholeN (absV b)).toNat
def timesR (a b : Nat) : Nat := tms 64 (powN b) 4607182418800017408 a
def timesW (a b : Nat) : Nat := if isNeg b then dD 4607182418800017408 (timesR a b) else timesR a b
def eqB (a : Nat) : Bool := FloatKind.f64.format.order (absV a) 4607182418800017408 == some .eq
def farW (a b : Nat) : Nat := if eqB a then 4607182418800017408 else if ltB 4607182418800017408 (absV a) != isNeg b then 9218868437227405312 else 0
def whB (b : Nat) : Bool := !isInfW b && decide (wayV .zero b = b)
def powE (a b : Nat) : Nat := expW (dM b (lnW a))
def powF (a b : Nat) : Nat := if zeroW b || decide (a = 4607182418800017408) then 4607182418800017408 else if nanW a || nanW b then theNaN else if isInfW b || (whB b && ltB 4845873199050653696 (absV b)) then farW a b else if whB b then timesW a b else if zeroW a then (if isNeg b then 9218868437227405312 else 0) else if isInfW a then (if isNeg b then 0 else 9218868437227405312) else if isNeg a then theNaN else powE a b
def atwW (a b : Nat) : Nat := if nanW a || nanW b then theNaN else if ltB 0 b then atanW (dD a b) else if ltB b 0 then (if isNeg a then dS (atanW (dD a b)) 4614256656552045848 else dA (atanW (dD a b)) 4614256656552045848) else if zeroW a then (if isNeg b then sgnd 4614256656552045848 a else a) else sgnd 4609753056924675352 a
theorem timesR_lt (a b : Nat) : timesR a b < 2 ^ 64 := tms_lt _ _ _ _ (by decide)
theorem isNeg_absV (b : Nat) : isNeg (absV b) = false := by
  cases hn : nanW b
  · exact (absV_eq hn).2.2.1
  · have h1 : nanW (b % 2 ^ 63) = true := by rw [nanW_eq, show rung (b % 2 ^ 63) = rung b by unfold rung; rw [Nat.mod_mod], ← nanW_eq]; exact hn
    have h2 : absV b = theNaN := by unfold absV bitsW; rw [if_pos h1]
    rw [h2]; decide
theorem powN_of {b : Nat} (hb : b < 2 ^ 64) : wholeN (absV b) = (powN b : Int) ∧ powN b < 2 ^ 63 := by
  have h : 0 ≤ wholeN (absV b) ∧ wholeN (absV b) < 9223372036854775808 := by
    unfold wholeN
    split
    · rename_i hk
      unfold wholeK at hk
      simp only [Bool.and_eq_true, decide_eq_true_eq] at hk
      refine ⟨?_, hk.2⟩
      have hs : isNeg (absV b) = false := isNeg_absV b
      unfold sv
      rw [hs]
      exact Int.natCast_nonneg _
    · omega
  unfold powN
  omega
theorem zero_inf {a : Nat} (za : zeroW a = true) : isInfW a = false := by
  unfold zeroW at za
  unfold isInfW
  have h : rung a = 0 := by simpa using za
  rw [h]; rfl
theorem lt_zero {a : Nat} (na : nanW a = false) : ltB a 0 = (!zeroW a && isNeg a) := by
  unfold ltB zeroW
  by_cases h : rung a = 0
  · rw [ltZ na h, h]; rfl
  · rw [ltS na h, (by simpa using h : (rung a == 0) = false)]; rfl
theorem zero_lt {a : Nat} (na : nanW a = false) : ltB 0 a = (!zeroW a && !isNeg a) := by
  rw [← gt_lt, gt_zero na]
theorem int53 : powW 53 = 4845873199050653696 := by decide +kernel
/-- How the document asks what Go asks of one. -/
theorem eq_cmp {x : Nat} (nx : nanW x = false) : (FloatKind.f64.format.order x 4607182418800017408 == some .eq) = (cmpC x 4607182418800017408 == 0) := by
  have h1 := nan_false nx
  show (Ieee.double.order _ _ == some .eq) = _
  rw [order_eq h1 (by decide), (cmp_not nx (by decide)).1]
  obtain ⟨u, hu⟩ : ∃ u, ival x = u := ⟨_, rfl⟩
  obtain ⟨v, hv⟩ : ∃ v, ival 4607182418800017408 = v := ⟨_, rfl⟩
  rw [hu, hv]
  show (some (compareOfLessAndEq u v) == some .eq) = _
  unfold compareOfLessAndEq
  by_cases h2 : u < v
  · rw [if_pos h2, if_pos h2]; rfl
  · rw [if_neg h2, if_neg h2]
    by_cases h3 : u = v
    · rw [if_pos h3, if_neg (by omega)]; rfl
    · rw [if_neg h3, if_pos (by omega)]; rfl
theorem kzero {a : Nat} (ha : a < 2 ^ 64) (w : World) : Kp 15 #[wd a] w (.bool (zeroW a)) := by
  have h := andNot' ha
  obtain ⟨z, hz⟩ : ∃ z : Int, ((rung a : Nat) : Int) = z := ⟨_, rfl⟩
  have hn : zeroW a = (z == 0) := by
    unfold zeroW
    by_cases h : rung a = 0
    · rw [show (rung a == 0) = true by simpa using h, show (z == 0) = true by simp; omega]
    · rw [show (rung a == 0) = false by simpa using h, show (z == 0) = false by simp; omega]
  rw [hn]
  rw [hz] at h
  clear hn hz
  go_enter Tryz.func15, Tryz.ntmps15
  go_wp2
  go_ret
  exact ⟨rfl, rfl⟩

theorem kwhN0 {b y : Nat} {t u : Bool} (hb : b < 2 ^ 64) (hy : wayV .zero b = y) (ib : isInfW b = t) (h : ((y : Int) == (b : Int)) = u) (w : World) : Kn 18 #[wd b] w (.bool (!t && u)) := by
  cases t
  all_goals
    go_enter Tryz.func18, Tryz.ntmps18
    go_wp2_with (first
      | (go_at_call 17; refine (kisinf hb _).mono ?_; rintro e wz ⟨rfl, hw1⟩; have hw2 := hw1.symm; clear hw1; subst hw2)
      | (go_at_call 57; refine (ktrunc _ _).mono ?_; rintro e wk ⟨rfl, n1, hw1⟩; have hw2 := hw1.symm; clear hw1; subst hw2))
    go_ret
    first | exact ⟨rfl, 0, rfl⟩ | exact ⟨rfl, _, rfl⟩
theorem kwhN {b : Nat} (hb : b < 2 ^ 64) (w : World) : Kn 18 #[wd b] w (.bool (whB b)) := by
  unfold whB
  by_cases h : wayV .zero b = b
  · rw [decide_eq_true h]; exact kwhN0 hb rfl rfl (eqI h) w
  · rw [decide_eq_false h]; exact kwhN0 hb rfl rfl (neI h) w

theorem kwhB0 {b y : Nat} {t u : Bool} (hb : b < 2 ^ 64) (hy : wayV .zero b = y) (ib : isInfW b = t) (h : ((y : Int) == (b : Int)) = u) (w : World) : Kb 18 #[wd b] w (.bool (!t && u)) := by
  have BL := Lib.hid (Below.refl w.heap.size w)
  cases t
  all_goals
    go_enter Tryz.func18, Tryz.ntmps18
    go_wp2_with (first
      | (go_at_call 17; refine (kisinf hb _).mono ?_; rintro e wz ⟨rfl, hw1⟩; have hw2 := hw1.symm; clear hw1; subst hw2)
      | (go_at_call 57; refine (ktrunc _ _).mono ?_; rintro e wk ⟨rfl, nk, hw⟩; have BL := Lib.hid (show Below w.heap.size w wk by rw [hw]; first | exact BL.out.trans (drew_below _ _ _) | exact (BL.out.trans (drew_below _ _ _)).trans (drew_below _ _ _) | exact (BL.out.alloc BL.out.size _).trans (drew_below _ _ _)); clear hw))
    go_ret
    exact ⟨rfl, BL.out⟩
theorem kwhB {b : Nat} (hb : b < 2 ^ 64) (w : World) : Kb 18 #[wd b] w (.bool (whB b)) := by
  unfold whB
  by_cases h : wayV .zero b = b
  · rw [decide_eq_true h]; exact kwhB0 hb rfl rfl (eqI h) w
  · rw [decide_eq_false h]; exact kwhB0 hb rfl rfl (neI h) w

theorem krwhB0 {b y : Nat} {t u : Bool} (hb : b < 2 ^ 64) (hy : wayV .zero b = y) (ib : isInfW b = t) (h : ((y : Int) == (b : Int)) = u) (w : World) : Kb 32 #[wd b] w (.bool (!t && u)) := by
  have BL := Lib.hid (Below.refl w.heap.size w)
  cases t
  all_goals
    go_enter Tryz.func32, Tryz.ntmps32
    go_wp2_with (first
      | (go_at_call 31; refine (krInfQ hb _).mono ?_; rintro e wz ⟨rfl, hw1⟩; have hw2 := hw1.symm; clear hw1; subst hw2)
      | (go_at_call 67; refine (krtrunc hb _).mono ?_; rintro e wk ⟨rfl, bk⟩; have BL := Lib.hid (BL.out.trans (bk.mono BL.out.size)); clear bk))
    go_ret
    exact ⟨rfl, BL.out⟩
theorem krwhB {b : Nat} (hb : b < 2 ^ 64) (w : World) : Kb 32 #[wd b] w (.bool (whB b)) := by
  unfold whB
  by_cases h : wayV .zero b = b
  · rw [decide_eq_true h]; exact krwhB0 hb rfl rfl (eqI h) w
  · rw [decide_eq_false h]; exact krwhB0 hb rfl rfl (neI h) w

theorem kfar0 {a b : Nat} {t u s : Bool} (ha : a < 2 ^ 64) (hb : b < 2 ^ 64) (h1 : (FloatKind.f64.format.order (absV a) 4607182418800017408 == some .eq) = t) (h2 : (FloatKind.f64.format.order (absV a) 4607182418800017408 == some .gt) = u) (hs : isNeg b = s) (w : World) :
    Kb 21 #[wd a, wd b] w (wd (if t then 4607182418800017408 else if u != s then 9218868437227405312 else 0)) := by
  have BL := Lib.hid (Below.refl w.heap.size w)
  cases t <;> cases u <;> cases s
  all_goals
    go_enter Tryz.func21, Tryz.ntmps21
    go_wp2_with (first
      | (go_at_call 19; refine (kof _ _).mono ?_; rintro e wz ⟨rfl, hw1⟩; have hw2 := hw1.symm; clear hw1; subst hw2)
      | (go_at_call 20; refine (kabs (by first | assumption | exact dA_lt _ _ | exact dS_lt _ _ | exact dM_lt _ _ | exact dD_lt _ _ | exact dQ_lt _ | exact intW_lt _ | exact powW_lt _ | exact flW_lt (dA_lt _ _) | decide) _).mono ?_; rintro e wz ⟨rfl, hw1⟩; have hw2 := hw1.symm; clear hw1; subst hw2)
      | (go_at_call 24; refine (knegative hb _).mono ?_; rintro e wz ⟨rfl, hw1⟩; have hw2 := hw1.symm; clear hw1; subst hw2)
      | (go_at_call 25; refine (kinfF _).mono ?_; rintro e wz ⟨rfl, hw1⟩; have hw2 := hw1.symm; clear hw1; subst hw2))
    go_ret
    exact ⟨rfl, BL.out⟩
theorem kfar {a b : Nat} (ha : a < 2 ^ 64) (hb : b < 2 ^ 64) (w : World) : Kb 21 #[wd a, wd b] w (wd (farW a b)) := kfar0 ha hb rfl (gt_lt _ _) rfl w

set_option maxRecDepth 100000 in
theorem ktimes' {a b n RR : Nat} {s : Bool} (ha : a < 2 ^ 64) (hb : b < 2 ^ 64) (hN : wholeN (absV b) = (n : Int)) (hn : n < 2 ^ 63) (hR : tms 64 n 4607182418800017408 a = RR) (hs : isNeg b = s) (w : World) (hT : TabW w) :
    Kn 22 #[wd a, wd b] w (wd (if s then dD 4607182418800017408 RR else RR)) := by
  have HT := Lib.hid hT
  have HR := Lib.hid hR
  have lb := absV_lt hb
  have KW : Hid (∀ w, Kn 9 #[wd (absV b)] w (.tuple #[.int .i64 (n : Int), .bool (wholeK (absV b))])) := Lib.hid (by
    intro w
    have := kwhole (a := absV b) lb w
    rw [hN] at this
    exact this)
  have hn2 : (n : Int) < 9223372036854775808 := by omega
  have hn3 : n < 2 ^ 64 := by omega
  have wr : IntKind.u64.wrap (n : Int) = (n : Int) := by rw [IntKind.wrap_u64]; omega
  clear hR hT hN
  go_enter Tryz.func22, Tryz.ntmps22
  go_wp2_with (first
    | (go_at_call 20; refine (kabs hb _).mono ?_; rintro e wz ⟨rfl, hw1⟩; have hw2 := hw1.symm; clear hw1; subst hw2)
    | (go_at_call 9; refine (KW.out _).mono ?_; rintro e wk ⟨rfl, n0, hw1⟩; have hw2 := hw1.symm; clear hw1; subst hw2))
  go_loopw [7, 8, 9] (fun x y z wv => ∃ (f r c m : Nat), x = wd r ∧ y = wd c ∧ z = wd m ∧ m < 2 ^ f ∧ m < 2 ^ 64 ∧ tms f m r c = RR ∧ ∃ d, wv = w.drewN d) (fun _ _ z _ => (intOf z).toNat)
  case atStart => exact ⟨64, 4607182418800017408, a, n, rfl, rfl, rfl, hn3, hn3, HR.out, _, rfl⟩
  case round =>
    obtain ⟨f, r, c, m, rfl, rfl, rfl, hf, hl, hr, d, rfl⟩ := hrel
    clear hn hn2 hn3 wr
    by_cases hm : m = 0
    · subst hm
      rw [tms_zero] at hr
      subst hr
      clear hf HR hl
      cases s
      all_goals
        go_wp2_with (first
          | (go_at_call 24; refine (knegative hb _).mono ?_; rintro e wz ⟨rfl, hw1⟩; have hw2 := hw1.symm; clear hw1; subst hw2)
          | (go_at_call 13; refine (kD _ _ _).mono ?_; rintro e wk ⟨rfl, n1, hw1⟩; have hw2 := hw1.symm; clear hw1; subst hw2))
        go_ret
        exact ⟨rfl, _, rfl⟩
    · obtain ⟨g, rfl⟩ : ∃ g, f = g + 1 := ⟨f - 1, by cases f <;> omega⟩
      obtain ⟨q, hq⟩ : ∃ q, m / 2 = q := ⟨_, rfl⟩
      have hr' : tms g q (if m % 2 = 1 then dM r c else r) (dM c c) = RR := by
        rw [← hq]
        have e := hr
        unfold tms at e
        rw [if_neg hm] at e
        exact e
      have hq2 : (m : Int) / 2 = (q : Int) := by omega
      have hqf : q < 2 ^ g := by rw [Nat.pow_succ] at hf; omega
      have hpos : (0 : Int) < (m : Int) := by omega
      have hqm : q < m := by omega
      have HQ := Lib.hid hqf
      by_cases hodd : m % 2 = 1
      · rw [if_pos hodd] at hr'
        have HR' := Lib.hid hr'
        have KT := Lib.hid (fun (w : World) (h : TabW w) => ktz_odd hl hodd w h)
        clear hr hr' hodd hqf hf hq
        go_wp2_with (first
          | (go_at_call 59; refine (KT.out _ (TabW.drew HT.out _)).mono ?_; rintro e wz ⟨rfl, hw1⟩; have hw2 := hw1.symm; clear hw1; subst hw2)
          | (go_at_call 27; refine (kM _ _ _).mono ?_; rintro e wk ⟨rfl, n1, hw1⟩; have hw2 := hw1.symm; clear hw1; subst hw2))
        go_roundw
        case rel => exact ⟨g, dM r c, dM c c, q, rfl, rfl, by go_num, HQ.out, by omega, HR'.out, _, rfl⟩
        case measure => simp [intOf]; omega
      · rw [if_neg hodd] at hr'
        have HR' := Lib.hid hr'
        obtain ⟨K, hK, kt⟩ := ktz_even hl hm hodd
        have KT := Lib.hid kt
        clear hr hr' hodd hqf hf hq kt
        go_wp2_with (first
          | (go_at_call 59; refine (KT.out _ (TabW.drew HT.out _)).mono ?_; rintro e wz ⟨rfl, hw1⟩; have hw2 := hw1.symm; clear hw1; subst hw2)
          | (go_at_call 27; refine (kM _ _ _).mono ?_; rintro e wk ⟨rfl, n1, hw1⟩; have hw2 := hw1.symm; clear hw1; subst hw2))
        go_roundw
        case rel => exact ⟨g, r, dM c c, q, rfl, rfl, by go_num, HQ.out, by omega, HR'.out, _, rfl⟩
        case measure => simp [intOf]; omega
theorem ktimesW {a b : Nat} (ha : a < 2 ^ 64) (hb : b < 2 ^ 64) (w : World) (hT : TabW w) : Kn 22 #[wd a, wd b] w (wd (timesW a b)) := by
  obtain ⟨h1, h2⟩ := powN_of hb
  exact ktimes' ha hb h1 h2 rfl rfl w hT

set_option maxRecDepth 100000 in
theorem kpow0 {a b : Nat} (ha : a < 2 ^ 64) (hb : b < 2 ^ 64) (zb : zeroW b = true) (w : World) : Kb 5 #[wd a, wd b] w (wd (4607182418800017408)) := by
  have BL := Lib.hid (Below.refl w.heap.size w)
  have la := absV_lt ha
  have lb := absV_lt hb
  go_enter Tryz.func5, Tryz.ntmps5
  go_wp2_with (first
    | (go_at_call 19; refine (kof _ _).mono ?_; rintro e wz ⟨rfl, hw1⟩; have hw2 := hw1.symm; clear hw1; subst hw2)
    | (go_at_call 15; refine (kzero (by assumption) _).mono ?_; rintro e wz ⟨rfl, hw1⟩; have hw2 := hw1.symm; clear hw1; subst hw2)
    | (go_at_call 16; refine (kisnan _ _).mono ?_; rintro e wz ⟨rfl, hw1⟩; have hw2 := hw1.symm; clear hw1; subst hw2)
    | (go_at_call 17; refine (kisinf (by assumption) _).mono ?_; rintro e wz ⟨rfl, hw1⟩; have hw2 := hw1.symm; clear hw1; subst hw2)
    | (go_at_call 18; refine (kwhB hb _).mono ?_; rintro e wk ⟨rfl, bk⟩; have BL := Lib.hid (BL.out.trans (bk.mono BL.out.size)); clear bk)
    | (go_at_call 20; refine (kabs hb _).mono ?_; rintro e wz ⟨rfl, hw1⟩; have hw2 := hw1.symm; clear hw1; subst hw2))
  go_ret
  exact ⟨rfl, BL.out⟩

set_option maxRecDepth 100000 in
theorem krpow0 {a b : Nat} (ha : a < 2 ^ 64) (hb : b < 2 ^ 64) (zb : zeroW b = true) (w : World) : Kb 6 #[wd a, wd b] w (wd (4607182418800017408)) := by
  have BL := Lib.hid (Below.refl w.heap.size w)
  have la := absV_lt ha
  have lb := absV_lt hb
  go_enter Tryz.func6, Tryz.ntmps6
  go_wp2_with (first
    | (go_at_call 29; refine (krNought (by assumption) _).mono ?_; rintro e wz ⟨rfl, hw1⟩; have hw2 := hw1.symm; clear hw1; subst hw2)
    | (go_at_call 30; refine (krNaN (by assumption) _).mono ?_; rintro e wz ⟨rfl, hw1⟩; have hw2 := hw1.symm; clear hw1; subst hw2)
    | (go_at_call 31; refine (krInfQ (by assumption) _).mono ?_; rintro e wz ⟨rfl, hw1⟩; have hw2 := hw1.symm; clear hw1; subst hw2)
    | (go_at_call 32; refine (krwhB hb _).mono ?_; rintro e wk ⟨rfl, bk⟩; have BL := Lib.hid (BL.out.trans (bk.mono BL.out.size)); clear bk)
    | (go_at_call 35; refine (krpower (k := 53) (by omega) _).mono ?_; rintro e wk ⟨rfl, bk⟩; have BL := Lib.hid (BL.out.trans (bk.mono BL.out.size)); clear bk)
    | (go_at_call 33; refine (krabove lb (powW_lt _) _).mono ?_; rintro e wk ⟨rfl, bk⟩; have BL := Lib.hid (BL.out.trans (bk.mono BL.out.size)); clear bk))
  go_ret
  exact ⟨rfl, BL.out⟩

set_option maxRecDepth 100000 in
theorem kpow1 {a b : Nat} (ha : a < 2 ^ 64) (hb : b < 2 ^ 64) (zb : zeroW b = false) (ea : ((a : Int) == 4607182418800017408) = true) (w : World) : Kb 5 #[wd a, wd b] w (wd (4607182418800017408)) := by
  have BL := Lib.hid (Below.refl w.heap.size w)
  have la := absV_lt ha
  have lb := absV_lt hb
  go_enter Tryz.func5, Tryz.ntmps5
  go_wp2_with (first
    | (go_at_call 19; refine (kof _ _).mono ?_; rintro e wz ⟨rfl, hw1⟩; have hw2 := hw1.symm; clear hw1; subst hw2)
    | (go_at_call 15; refine (kzero (by assumption) _).mono ?_; rintro e wz ⟨rfl, hw1⟩; have hw2 := hw1.symm; clear hw1; subst hw2)
    | (go_at_call 16; refine (kisnan _ _).mono ?_; rintro e wz ⟨rfl, hw1⟩; have hw2 := hw1.symm; clear hw1; subst hw2)
    | (go_at_call 17; refine (kisinf (by assumption) _).mono ?_; rintro e wz ⟨rfl, hw1⟩; have hw2 := hw1.symm; clear hw1; subst hw2)
    | (go_at_call 18; refine (kwhB hb _).mono ?_; rintro e wk ⟨rfl, bk⟩; have BL := Lib.hid (BL.out.trans (bk.mono BL.out.size)); clear bk)
    | (go_at_call 20; refine (kabs hb _).mono ?_; rintro e wz ⟨rfl, hw1⟩; have hw2 := hw1.symm; clear hw1; subst hw2))
  go_ret
  exact ⟨rfl, BL.out⟩

set_option maxRecDepth 100000 in
theorem krpow1 {a b : Nat} (ha : a < 2 ^ 64) (hb : b < 2 ^ 64) (zb : zeroW b = false) (ea : ((a : Int) == 4607182418800017408) = true) (w : World) : Kb 6 #[wd a, wd b] w (wd (4607182418800017408)) := by
  have BL := Lib.hid (Below.refl w.heap.size w)
  have la := absV_lt ha
  have lb := absV_lt hb
  go_enter Tryz.func6, Tryz.ntmps6
  go_wp2_with (first
    | (go_at_call 29; refine (krNought (by assumption) _).mono ?_; rintro e wz ⟨rfl, hw1⟩; have hw2 := hw1.symm; clear hw1; subst hw2)
    | (go_at_call 30; refine (krNaN (by assumption) _).mono ?_; rintro e wz ⟨rfl, hw1⟩; have hw2 := hw1.symm; clear hw1; subst hw2)
    | (go_at_call 31; refine (krInfQ (by assumption) _).mono ?_; rintro e wz ⟨rfl, hw1⟩; have hw2 := hw1.symm; clear hw1; subst hw2)
    | (go_at_call 32; refine (krwhB hb _).mono ?_; rintro e wk ⟨rfl, bk⟩; have BL := Lib.hid (BL.out.trans (bk.mono BL.out.size)); clear bk)
    | (go_at_call 35; refine (krpower (k := 53) (by omega) _).mono ?_; rintro e wk ⟨rfl, bk⟩; have BL := Lib.hid (BL.out.trans (bk.mono BL.out.size)); clear bk)
    | (go_at_call 33; refine (krabove lb (powW_lt _) _).mono ?_; rintro e wk ⟨rfl, bk⟩; have BL := Lib.hid (BL.out.trans (bk.mono BL.out.size)); clear bk))
  go_ret
  exact ⟨rfl, BL.out⟩

set_option maxRecDepth 100000 in
theorem kpow2 {a b : Nat} (ha : a < 2 ^ 64) (hb : b < 2 ^ 64) (zb : zeroW b = false) (ea : ((a : Int) == 4607182418800017408) = false) (na : nanW a = true) (w : World) : Kb 5 #[wd a, wd b] w (wd (theNaN)) := by
  have BL := Lib.hid (Below.refl w.heap.size w)
  have la := absV_lt ha
  have lb := absV_lt hb
  go_enter Tryz.func5, Tryz.ntmps5
  go_wp2_with (first
    | (go_at_call 19; refine (kof _ _).mono ?_; rintro e wz ⟨rfl, hw1⟩; have hw2 := hw1.symm; clear hw1; subst hw2)
    | (go_at_call 15; refine (kzero (by assumption) _).mono ?_; rintro e wz ⟨rfl, hw1⟩; have hw2 := hw1.symm; clear hw1; subst hw2)
    | (go_at_call 16; refine (kisnan _ _).mono ?_; rintro e wz ⟨rfl, hw1⟩; have hw2 := hw1.symm; clear hw1; subst hw2)
    | (go_at_call 17; refine (kisinf (by assumption) _).mono ?_; rintro e wz ⟨rfl, hw1⟩; have hw2 := hw1.symm; clear hw1; subst hw2)
    | (go_at_call 18; refine (kwhB hb _).mono ?_; rintro e wk ⟨rfl, bk⟩; have BL := Lib.hid (BL.out.trans (bk.mono BL.out.size)); clear bk)
    | (go_at_call 20; refine (kabs hb _).mono ?_; rintro e wz ⟨rfl, hw1⟩; have hw2 := hw1.symm; clear hw1; subst hw2))
  go_ret
  exact ⟨rfl, BL.out⟩

set_option maxRecDepth 100000 in
theorem krpow2 {a b : Nat} (ha : a < 2 ^ 64) (hb : b < 2 ^ 64) (zb : zeroW b = false) (ea : ((a : Int) == 4607182418800017408) = false) (na : nanW a = true) (w : World) : Kb 6 #[wd a, wd b] w (wd (theNaN)) := by
  have BL := Lib.hid (Below.refl w.heap.size w)
  have la := absV_lt ha
  have lb := absV_lt hb
  go_enter Tryz.func6, Tryz.ntmps6
  go_wp2_with (first
    | (go_at_call 29; refine (krNought (by assumption) _).mono ?_; rintro e wz ⟨rfl, hw1⟩; have hw2 := hw1.symm; clear hw1; subst hw2)
    | (go_at_call 30; refine (krNaN (by assumption) _).mono ?_; rintro e wz ⟨rfl, hw1⟩; have hw2 := hw1.symm; clear hw1; subst hw2)
    | (go_at_call 31; refine (krInfQ (by assumption) _).mono ?_; rintro e wz ⟨rfl, hw1⟩; have hw2 := hw1.symm; clear hw1; subst hw2)
    | (go_at_call 32; refine (krwhB hb _).mono ?_; rintro e wk ⟨rfl, bk⟩; have BL := Lib.hid (BL.out.trans (bk.mono BL.out.size)); clear bk)
    | (go_at_call 35; refine (krpower (k := 53) (by omega) _).mono ?_; rintro e wk ⟨rfl, bk⟩; have BL := Lib.hid (BL.out.trans (bk.mono BL.out.size)); clear bk)
    | (go_at_call 33; refine (krabove lb (powW_lt _) _).mono ?_; rintro e wk ⟨rfl, bk⟩; have BL := Lib.hid (BL.out.trans (bk.mono BL.out.size)); clear bk))
  go_ret
  exact ⟨rfl, BL.out⟩

set_option maxRecDepth 100000 in
theorem kpow3 {a b : Nat} (ha : a < 2 ^ 64) (hb : b < 2 ^ 64) (zb : zeroW b = false) (ea : ((a : Int) == 4607182418800017408) = false) (na : nanW a = false) (nb : nanW b = true) (w : World) : Kb 5 #[wd a, wd b] w (wd (theNaN)) := by
  have BL := Lib.hid (Below.refl w.heap.size w)
  have la := absV_lt ha
  have lb := absV_lt hb
  go_enter Tryz.func5, Tryz.ntmps5
  go_wp2_with (first
    | (go_at_call 19; refine (kof _ _).mono ?_; rintro e wz ⟨rfl, hw1⟩; have hw2 := hw1.symm; clear hw1; subst hw2)
    | (go_at_call 15; refine (kzero (by assumption) _).mono ?_; rintro e wz ⟨rfl, hw1⟩; have hw2 := hw1.symm; clear hw1; subst hw2)
    | (go_at_call 16; refine (kisnan _ _).mono ?_; rintro e wz ⟨rfl, hw1⟩; have hw2 := hw1.symm; clear hw1; subst hw2)
    | (go_at_call 17; refine (kisinf (by assumption) _).mono ?_; rintro e wz ⟨rfl, hw1⟩; have hw2 := hw1.symm; clear hw1; subst hw2)
    | (go_at_call 18; refine (kwhB hb _).mono ?_; rintro e wk ⟨rfl, bk⟩; have BL := Lib.hid (BL.out.trans (bk.mono BL.out.size)); clear bk)
    | (go_at_call 20; refine (kabs hb _).mono ?_; rintro e wz ⟨rfl, hw1⟩; have hw2 := hw1.symm; clear hw1; subst hw2))
  go_ret
  exact ⟨rfl, BL.out⟩

set_option maxRecDepth 100000 in
theorem krpow3 {a b : Nat} (ha : a < 2 ^ 64) (hb : b < 2 ^ 64) (zb : zeroW b = false) (ea : ((a : Int) == 4607182418800017408) = false) (na : nanW a = false) (nb : nanW b = true) (w : World) : Kb 6 #[wd a, wd b] w (wd (theNaN)) := by
  have BL := Lib.hid (Below.refl w.heap.size w)
  have la := absV_lt ha
  have lb := absV_lt hb
  go_enter Tryz.func6, Tryz.ntmps6
  go_wp2_with (first
    | (go_at_call 29; refine (krNought (by assumption) _).mono ?_; rintro e wz ⟨rfl, hw1⟩; have hw2 := hw1.symm; clear hw1; subst hw2)
    | (go_at_call 30; refine (krNaN (by assumption) _).mono ?_; rintro e wz ⟨rfl, hw1⟩; have hw2 := hw1.symm; clear hw1; subst hw2)
    | (go_at_call 31; refine (krInfQ (by assumption) _).mono ?_; rintro e wz ⟨rfl, hw1⟩; have hw2 := hw1.symm; clear hw1; subst hw2)
    | (go_at_call 32; refine (krwhB hb _).mono ?_; rintro e wk ⟨rfl, bk⟩; have BL := Lib.hid (BL.out.trans (bk.mono BL.out.size)); clear bk)
    | (go_at_call 35; refine (krpower (k := 53) (by omega) _).mono ?_; rintro e wk ⟨rfl, bk⟩; have BL := Lib.hid (BL.out.trans (bk.mono BL.out.size)); clear bk)
    | (go_at_call 33; refine (krabove lb (powW_lt _) _).mono ?_; rintro e wk ⟨rfl, bk⟩; have BL := Lib.hid (BL.out.trans (bk.mono BL.out.size)); clear bk))
  go_ret
  exact ⟨rfl, BL.out⟩

set_option maxRecDepth 100000 in
theorem kpow4 {a b : Nat} (ha : a < 2 ^ 64) (hb : b < 2 ^ 64) (zb : zeroW b = false) (ea : ((a : Int) == 4607182418800017408) = false) (na : nanW a = false) (nb : nanW b = false) (ib : isInfW b = true) (w : World) : Kb 5 #[wd a, wd b] w (wd (farW a b)) := by
  have BL := Lib.hid (Below.refl w.heap.size w)
  have la := absV_lt ha
  have lb := absV_lt hb
  go_enter Tryz.func5, Tryz.ntmps5
  go_wp2_with (first
    | (go_at_call 19; refine (kof _ _).mono ?_; rintro e wz ⟨rfl, hw1⟩; have hw2 := hw1.symm; clear hw1; subst hw2)
    | (go_at_call 15; refine (kzero (by assumption) _).mono ?_; rintro e wz ⟨rfl, hw1⟩; have hw2 := hw1.symm; clear hw1; subst hw2)
    | (go_at_call 16; refine (kisnan _ _).mono ?_; rintro e wz ⟨rfl, hw1⟩; have hw2 := hw1.symm; clear hw1; subst hw2)
    | (go_at_call 17; refine (kisinf (by assumption) _).mono ?_; rintro e wz ⟨rfl, hw1⟩; have hw2 := hw1.symm; clear hw1; subst hw2)
    | (go_at_call 18; refine (kwhB hb _).mono ?_; rintro e wk ⟨rfl, bk⟩; have BL := Lib.hid (BL.out.trans (bk.mono BL.out.size)); clear bk)
    | (go_at_call 20; refine (kabs hb _).mono ?_; rintro e wz ⟨rfl, hw1⟩; have hw2 := hw1.symm; clear hw1; subst hw2)
    | (go_at_call 21; refine (kfar ha hb _).mono ?_; rintro e wk ⟨rfl, bk⟩; have BL := Lib.hid (BL.out.trans (bk.mono BL.out.size)); clear bk))
  go_ret
  exact ⟨rfl, BL.out⟩

set_option maxRecDepth 100000 in
theorem kpow5 {a b : Nat} (ha : a < 2 ^ 64) (hb : b < 2 ^ 64) (zb : zeroW b = false) (ea : ((a : Int) == 4607182418800017408) = false) (na : nanW a = false) (nb : nanW b = false) (ib : isInfW b = false) (wb : whB b = true) (fb : (FloatKind.f64.format.order (absV b) 4845873199050653696 == some .gt) = true) (w : World) : Kb 5 #[wd a, wd b] w (wd (farW a b)) := by
  have BL := Lib.hid (Below.refl w.heap.size w)
  have la := absV_lt ha
  have lb := absV_lt hb
  go_enter Tryz.func5, Tryz.ntmps5
  go_wp2_with (first
    | (go_at_call 19; refine (kof _ _).mono ?_; rintro e wz ⟨rfl, hw1⟩; have hw2 := hw1.symm; clear hw1; subst hw2)
    | (go_at_call 15; refine (kzero (by assumption) _).mono ?_; rintro e wz ⟨rfl, hw1⟩; have hw2 := hw1.symm; clear hw1; subst hw2)
    | (go_at_call 16; refine (kisnan _ _).mono ?_; rintro e wz ⟨rfl, hw1⟩; have hw2 := hw1.symm; clear hw1; subst hw2)
    | (go_at_call 17; refine (kisinf (by assumption) _).mono ?_; rintro e wz ⟨rfl, hw1⟩; have hw2 := hw1.symm; clear hw1; subst hw2)
    | (go_at_call 18; refine (kwhB hb _).mono ?_; rintro e wk ⟨rfl, bk⟩; have BL := Lib.hid (BL.out.trans (bk.mono BL.out.size)); clear bk)
    | (go_at_call 20; refine (kabs hb _).mono ?_; rintro e wz ⟨rfl, hw1⟩; have hw2 := hw1.symm; clear hw1; subst hw2)
    | (go_at_call 21; refine (kfar ha hb _).mono ?_; rintro e wk ⟨rfl, bk⟩; have BL := Lib.hid (BL.out.trans (bk.mono BL.out.size)); clear bk))
  go_ret
  exact ⟨rfl, BL.out⟩

set_option maxRecDepth 100000 in
theorem krpow4 {a b : Nat} {ZZ : Int} {k t u s : Bool} (ha : a < 2 ^ 64) (hb : b < 2 ^ 64) (zb : zeroW b = false) (ea : ((a : Int) == 4607182418800017408) = false) (na : nanW a = false) (nb : nanW b = false) (ib : isInfW b = true) (kc : ∀ w, Kb 36 #[wd (absV a), wd 4607182418800017408] w (.tuple #[.int .i64 ZZ, .bool k])) (h1 : (ZZ == 0) = t) (h2 : decide (0 < ZZ) = u) (hs : isNeg b = s) (w : World) :
    Kb 6 #[wd a, wd b] w (wd (if t then 4607182418800017408 else if u != s then 9218868437227405312 else 0)) := by
  have BL := Lib.hid (Below.refl w.heap.size w)
  have la := absV_lt ha
  have lb := absV_lt hb
  have KC := Lib.hid kc
  clear kc
  have HD := Lib.hid h2
  cases t <;> cases u <;> cases s
  all_goals
    first
      | have hz := of_decide_eq_true h2
      | have hz := of_decide_eq_false h2
    clear h2
    go_enter Tryz.func6, Tryz.ntmps6
    go_wp2_with (first
      | (go_at_call 34; refine (krabs (by assumption) _).mono ?_; rintro e wz ⟨rfl, hw1⟩; have hw2 := hw1.symm; clear hw1; subst hw2)
      | (go_at_call 36; refine (KC.out _).mono ?_; rintro e wk ⟨rfl, bk⟩; have BL := Lib.hid (BL.out.trans (bk.mono BL.out.size)); clear bk)
      | (go_at_call 37; refine (krNeg0 hb _).mono ?_; rintro e wz ⟨rfl, hw1⟩; have hw2 := hw1.symm; clear hw1; subst hw2)
      | (go_at_call 29; refine (krNought (by assumption) _).mono ?_; rintro e wz ⟨rfl, hw1⟩; have hw2 := hw1.symm; clear hw1; subst hw2)
      | (go_at_call 30; refine (krNaN (by assumption) _).mono ?_; rintro e wz ⟨rfl, hw1⟩; have hw2 := hw1.symm; clear hw1; subst hw2)
      | (go_at_call 31; refine (krInfQ (by assumption) _).mono ?_; rintro e wz ⟨rfl, hw1⟩; have hw2 := hw1.symm; clear hw1; subst hw2)
      | (go_at_call 32; refine (krwhB hb _).mono ?_; rintro e wk ⟨rfl, bk⟩; have BL := Lib.hid (BL.out.trans (bk.mono BL.out.size)); clear bk)
      | (go_at_call 35; refine (krpower (k := 53) (by omega) _).mono ?_; rintro e wk ⟨rfl, bk⟩; have BL := Lib.hid (BL.out.trans (bk.mono BL.out.size)); clear bk)
      | (go_at_call 33; refine (krabove lb (powW_lt _) _).mono ?_; rintro e wk ⟨rfl, bk⟩; have BL := Lib.hid (BL.out.trans (bk.mono BL.out.size)); clear bk))
    all_goals first | (exfalso; omega) | (exfalso; have e := HD.out; rename_i h8; rw [e] at h8; cases h8; done) | (go_ret; exact ⟨rfl, BL.out⟩)
    skip

set_option maxRecDepth 100000 in
theorem krpow5 {a b : Nat} {ZZ : Int} {k t u s : Bool} (ha : a < 2 ^ 64) (hb : b < 2 ^ 64) (zb : zeroW b = false) (ea : ((a : Int) == 4607182418800017408) = false) (na : nanW a = false) (nb : nanW b = false) (ib : isInfW b = false) (wb : whB b = true) (fb : ltB (powW 53) (absV b) = true) (kc : ∀ w, Kb 36 #[wd (absV a), wd 4607182418800017408] w (.tuple #[.int .i64 ZZ, .bool k])) (h1 : (ZZ == 0) = t) (h2 : decide (0 < ZZ) = u) (hs : isNeg b = s) (w : World) :
    Kb 6 #[wd a, wd b] w (wd (if t then 4607182418800017408 else if u != s then 9218868437227405312 else 0)) := by
  have BL := Lib.hid (Below.refl w.heap.size w)
  have la := absV_lt ha
  have lb := absV_lt hb
  have KC := Lib.hid kc
  clear kc
  have HD := Lib.hid h2
  cases t <;> cases u <;> cases s
  all_goals
    first
      | have hz := of_decide_eq_true h2
      | have hz := of_decide_eq_false h2
    clear h2
    go_enter Tryz.func6, Tryz.ntmps6
    go_wp2_with (first
      | (go_at_call 34; refine (krabs (by assumption) _).mono ?_; rintro e wz ⟨rfl, hw1⟩; have hw2 := hw1.symm; clear hw1; subst hw2)
      | (go_at_call 36; refine (KC.out _).mono ?_; rintro e wk ⟨rfl, bk⟩; have BL := Lib.hid (BL.out.trans (bk.mono BL.out.size)); clear bk)
      | (go_at_call 37; refine (krNeg0 hb _).mono ?_; rintro e wz ⟨rfl, hw1⟩; have hw2 := hw1.symm; clear hw1; subst hw2)
      | (go_at_call 29; refine (krNought (by assumption) _).mono ?_; rintro e wz ⟨rfl, hw1⟩; have hw2 := hw1.symm; clear hw1; subst hw2)
      | (go_at_call 30; refine (krNaN (by assumption) _).mono ?_; rintro e wz ⟨rfl, hw1⟩; have hw2 := hw1.symm; clear hw1; subst hw2)
      | (go_at_call 31; refine (krInfQ (by assumption) _).mono ?_; rintro e wz ⟨rfl, hw1⟩; have hw2 := hw1.symm; clear hw1; subst hw2)
      | (go_at_call 32; refine (krwhB hb _).mono ?_; rintro e wk ⟨rfl, bk⟩; have BL := Lib.hid (BL.out.trans (bk.mono BL.out.size)); clear bk)
      | (go_at_call 35; refine (krpower (k := 53) (by omega) _).mono ?_; rintro e wk ⟨rfl, bk⟩; have BL := Lib.hid (BL.out.trans (bk.mono BL.out.size)); clear bk)
      | (go_at_call 33; refine (krabove lb (powW_lt _) _).mono ?_; rintro e wk ⟨rfl, bk⟩; have BL := Lib.hid (BL.out.trans (bk.mono BL.out.size)); clear bk))
    all_goals first | (exfalso; omega) | (exfalso; have e := HD.out; rename_i h8; rw [e] at h8; cases h8; done) | (go_ret; exact ⟨rfl, BL.out⟩)
    skip

set_option maxRecDepth 100000 in
theorem kpow6 {a b : Nat} (ha : a < 2 ^ 64) (hb : b < 2 ^ 64) (zb : zeroW b = false) (ea : ((a : Int) == 4607182418800017408) = false) (na : nanW a = false) (nb : nanW b = false) (ib : isInfW b = false) (wb : whB b = true) (fb : (FloatKind.f64.format.order (absV b) 4845873199050653696 == some .gt) = false) (w : World) (hT : TabW w) : Kb 5 #[wd a, wd b] w (wd (timesW a b)) := by
  have HT := Lib.hid hT
  clear hT
  have BL := Lib.hid (Below.refl w.heap.size w)
  have la := absV_lt ha
  have lb := absV_lt hb
  go_enter Tryz.func5, Tryz.ntmps5
  go_wp2_with (first
    | (go_at_call 19; refine (kof _ _).mono ?_; rintro e wz ⟨rfl, hw1⟩; have hw2 := hw1.symm; clear hw1; subst hw2)
    | (go_at_call 15; refine (kzero (by assumption) _).mono ?_; rintro e wz ⟨rfl, hw1⟩; have hw2 := hw1.symm; clear hw1; subst hw2)
    | (go_at_call 16; refine (kisnan _ _).mono ?_; rintro e wz ⟨rfl, hw1⟩; have hw2 := hw1.symm; clear hw1; subst hw2)
    | (go_at_call 17; refine (kisinf (by assumption) _).mono ?_; rintro e wz ⟨rfl, hw1⟩; have hw2 := hw1.symm; clear hw1; subst hw2)
    | (go_at_call 18; refine (kwhN hb _).mono ?_; rintro e wk ⟨rfl, n1, hw1⟩; have hw2 := hw1.symm; clear hw1; subst hw2)
    | (go_at_call 20; refine (kabs hb _).mono ?_; rintro e wz ⟨rfl, hw1⟩; have hw2 := hw1.symm; clear hw1; subst hw2)
    | (go_at_call 22; refine (ktimesW ha hb _ (TabW.drew HT.out _)).mono ?_; rintro e wk ⟨rfl, n1, hw1⟩; have hw2 := hw1.symm; clear hw1; subst hw2))
  go_ret
  exact ⟨rfl, drew_below _ _ _⟩

set_option maxRecDepth 100000 in
theorem krpow6 {a b n RR : Nat} {s : Bool} (ha : a < 2 ^ 64) (hb : b < 2 ^ 64) (zb : zeroW b = false) (ea : ((a : Int) == 4607182418800017408) = false) (na : nanW a = false) (nb : nanW b = false) (ib : isInfW b = false) (wb : whB b = true) (fb : ltB (powW 53) (absV b) = false) (hN : wholeN (absV b) = (n : Int)) (hn : n < 2 ^ 63) (hR : tms 64 n 4607182418800017408 a = RR) (hs : isNeg b = s) (w : World) :
    Kb 6 #[wd a, wd b] w (wd (if s then dD 4607182418800017408 RR else RR)) := by
  have HR := Lib.hid hR
  have lb := absV_lt hb
  have BL := Lib.hid (Below.refl w.heap.size w)
  have LRR : RR < 2 ^ 64 := by rw [← hR]; exact tms_lt _ _ _ _ (by decide)
  have KW : Hid (∀ w, Kb 38 #[wd (absV b)] w (.tuple #[.int .i64 (n : Int), .bool (wholeK (absV b))])) := Lib.hid (by
    intro w
    have := krWhole (a := absV b) lb w
    rw [hN] at this
    exact this)
  have hn2 : (n : Int) < 9223372036854775808 := by omega
  have hn3 : n < 2 ^ 64 := by omega
  clear hR hN
  go_enter Tryz.func6, Tryz.ntmps6
  go_wp2_with (first
    | (go_at_call 29; refine (krNought (by assumption) _).mono ?_; rintro e wz ⟨rfl, hw1⟩; have hw2 := hw1.symm; clear hw1; subst hw2)
    | (go_at_call 30; refine (krNaN (by assumption) _).mono ?_; rintro e wz ⟨rfl, hw1⟩; have hw2 := hw1.symm; clear hw1; subst hw2)
    | (go_at_call 31; refine (krInfQ (by assumption) _).mono ?_; rintro e wz ⟨rfl, hw1⟩; have hw2 := hw1.symm; clear hw1; subst hw2)
    | (go_at_call 32; refine (krwhB hb _).mono ?_; rintro e wk ⟨rfl, bk⟩; have BL := Lib.hid (BL.out.trans (bk.mono BL.out.size)); clear bk)
    | (go_at_call 35; refine (krpower (k := 53) (by omega) _).mono ?_; rintro e wk ⟨rfl, bk⟩; have BL := Lib.hid (BL.out.trans (bk.mono BL.out.size)); clear bk)
    | (go_at_call 33; refine (krabove lb (powW_lt _) _).mono ?_; rintro e wk ⟨rfl, bk⟩; have BL := Lib.hid (BL.out.trans (bk.mono BL.out.size)); clear bk)
    | (go_at_call 34; refine (krabs hb _).mono ?_; rintro e wz ⟨rfl, hw1⟩; have hw2 := hw1.symm; clear hw1; subst hw2)
    | (go_at_call 38; refine (KW.out _).mono ?_; rintro e wk ⟨rfl, bk⟩; have BL := Lib.hid (BL.out.trans (bk.mono BL.out.size)); clear bk))
  go_loopw [7, 9, 10] (fun v x y wv => ∃ (f r c m : Nat) (z : Int), x = wd r ∧ y = wd c ∧ v = .int .i64 z ∧ z = (m : Int) ∧ m < 2 ^ f ∧ m < 2 ^ 63 ∧ r < 2 ^ 64 ∧ c < 2 ^ 64 ∧ tms f m r c = RR ∧ Below w.heap.size w wv) (fun v _ _ _ => (intOf v).toNat)
  case atStart => exact ⟨64, 4607182418800017408, a, n, (n : Int), rfl, rfl, rfl, rfl, hn3, hn, by decide, ha, HR.out, BL.out⟩
  case round =>
    obtain ⟨f, r, c, m, z, rfl, rfl, rfl, hz, hf, hl, lr, lc, hr, bl⟩ := hrel
    clear hn hn2 hn3
    have BL := Lib.hid bl
    clear bl
    by_cases hm : m = 0
    · subst hm
      have hz0 : z = 0 := hz
      clear hz
      subst hz0
      rw [tms_zero] at hr
      subst hr
      clear hf HR hl
      cases s
      all_goals
        go_wp2_with (first
          | (go_at_call 37; refine (krNeg0 hb _).mono ?_; rintro e wz ⟨rfl, hw1⟩; have hw2 := hw1.symm; clear hw1; subst hw2)
          | (go_at_call 40; refine (rD (by first | assumption | exact dA_lt _ _ | exact dS_lt _ _ | exact dM_lt _ _ | exact dD_lt _ _ | exact dQ_lt _ | exact intW_lt _ | exact powW_lt _ | exact flW_lt (dA_lt _ _) | decide) (by first | assumption | exact dA_lt _ _ | exact dS_lt _ _ | exact dM_lt _ _ | exact dD_lt _ _ | exact dQ_lt _ | exact intW_lt _ | exact powW_lt _ | exact flW_lt (dA_lt _ _) | decide) _).mono ?_; rintro e wk ⟨rfl, bk⟩; have BL := Lib.hid (BL.out.trans (bk.mono BL.out.size)); clear bk))
        go_ret
        exact ⟨rfl, BL.out⟩
    · obtain ⟨g, rfl⟩ : ∃ g, f = g + 1 := ⟨f - 1, by cases f <;> omega⟩
      obtain ⟨q, hq⟩ : ∃ q, m / 2 = q := ⟨_, rfl⟩
      have hr' : tms g q (if m % 2 = 1 then dM r c else r) (dM c c) = RR := by
        rw [← hq]
        have e := hr
        unfold tms at e
        rw [if_neg hm] at e
        exact e
      obtain ⟨Q, hQ⟩ : ∃ Q : Int, Q = (q : Int) := ⟨_, rfl⟩
      have hm2 : z < 9223372036854775808 := by omega
      have hq2 : z / 2 = Q := by omega
      have hq3 : z.tdiv 2 = Q := by rw [Int.tdiv_eq_ediv_of_nonneg (by omega)]; exact hq2
      have hqf : q < 2 ^ g := by rw [Nat.pow_succ] at hf; omega
      have hpos : 0 < z := by omega
      have hQ1 : 0 ≤ Q ∧ Q < 4611686018427387905 := by omega
      have hQz := Lib.hid (show Q < z by omega)
      have HQ := Lib.hid hqf
      have HQQ := Lib.hid hQ
      have hmod : z.tmod 2 = z % 2 := Int.tmod_eq_emod_of_nonneg (by omega)
      have hqm2 : q < 2 ^ 63 := by omega
      have HQ2 := Lib.hid hqm2
      by_cases hodd : m % 2 = 1
      · rw [if_pos hodd] at hr'
        have HR' := Lib.hid hr'
        have e1 : z % 2 = 1 := by omega
        rw [e1] at hmod
        clear hr hr' hodd hqf hf hq hz hQ hqm2 hl hm
        go_wp2_with (first
          | (go_at_call 39; refine (rM (by first | assumption | exact dA_lt _ _ | exact dS_lt _ _ | exact dM_lt _ _ | exact dD_lt _ _ | exact dQ_lt _ | exact intW_lt _ | exact powW_lt _ | exact flW_lt (dA_lt _ _) | decide) (by first | assumption | exact dA_lt _ _ | exact dS_lt _ _ | exact dM_lt _ _ | exact dD_lt _ _ | exact dQ_lt _ | exact intW_lt _ | exact powW_lt _ | exact flW_lt (dA_lt _ _) | decide) _).mono ?_; rintro e wk ⟨rfl, bk⟩; have BL := Lib.hid (BL.out.trans (bk.mono BL.out.size)); clear bk))
        go_roundw
        case rel => exact ⟨g, dM r c, dM c c, q, Q, rfl, rfl, by go_num, HQQ.out, HQ.out, HQ2.out, dM_lt _ _, dM_lt _ _, HR'.out, BL.out⟩
        case measure => have := hQz.out; simp [intOf]; omega
      · rw [if_neg hodd] at hr'
        have HR' := Lib.hid hr'
        have e1 : z % 2 = 0 := by omega
        rw [e1] at hmod
        clear hr hr' hodd hqf hf hq hz hQ hqm2 hl hm
        go_wp2_with (first
          | (go_at_call 39; refine (rM (by first | assumption | exact dA_lt _ _ | exact dS_lt _ _ | exact dM_lt _ _ | exact dD_lt _ _ | exact dQ_lt _ | exact intW_lt _ | exact powW_lt _ | exact flW_lt (dA_lt _ _) | decide) (by first | assumption | exact dA_lt _ _ | exact dS_lt _ _ | exact dM_lt _ _ | exact dD_lt _ _ | exact dQ_lt _ | exact intW_lt _ | exact powW_lt _ | exact flW_lt (dA_lt _ _) | decide) _).mono ?_; rintro e wk ⟨rfl, bk⟩; have BL := Lib.hid (BL.out.trans (bk.mono BL.out.size)); clear bk))
        go_roundw
        case rel => exact ⟨g, r, dM c c, q, Q, rfl, rfl, by go_num, HQQ.out, HQ.out, HQ2.out, lr, dM_lt _ _, HR'.out, BL.out⟩
        case measure => have := hQz.out; simp [intOf]; omega

set_option maxRecDepth 100000 in
theorem kpow7 {a b : Nat} (ha : a < 2 ^ 64) (hb : b < 2 ^ 64) (zb : zeroW b = false) (ea : ((a : Int) == 4607182418800017408) = false) (na : nanW a = false) (nb : nanW b = false) (ib : isInfW b = false) (wb : whB b = false) (za : zeroW a = true) (ia : isInfW a = false) (sb : isNeg b = true) (l0 : ltB a 0 = false) (w : World) : Kb 5 #[wd a, wd b] w (wd (9218868437227405312)) := by
  have BL := Lib.hid (Below.refl w.heap.size w)
  have la := absV_lt ha
  have lb := absV_lt hb
  go_enter Tryz.func5, Tryz.ntmps5
  go_wp2_with (first
    | (go_at_call 19; refine (kof _ _).mono ?_; rintro e wz ⟨rfl, hw1⟩; have hw2 := hw1.symm; clear hw1; subst hw2)
    | (go_at_call 15; refine (kzero (by assumption) _).mono ?_; rintro e wz ⟨rfl, hw1⟩; have hw2 := hw1.symm; clear hw1; subst hw2)
    | (go_at_call 16; refine (kisnan _ _).mono ?_; rintro e wz ⟨rfl, hw1⟩; have hw2 := hw1.symm; clear hw1; subst hw2)
    | (go_at_call 17; refine (kisinf (by assumption) _).mono ?_; rintro e wz ⟨rfl, hw1⟩; have hw2 := hw1.symm; clear hw1; subst hw2)
    | (go_at_call 18; refine (kwhB hb _).mono ?_; rintro e wk ⟨rfl, bk⟩; have BL := Lib.hid (BL.out.trans (bk.mono BL.out.size)); clear bk)
    | (go_at_call 20; refine (kabs hb _).mono ?_; rintro e wz ⟨rfl, hw1⟩; have hw2 := hw1.symm; clear hw1; subst hw2)
    | (go_at_call 23; refine (knless _ _ _).mono ?_; rintro e wz ⟨rfl, hw1⟩; have hw2 := hw1.symm; clear hw1; subst hw2)
    | (go_at_call 24; refine (knegative hb _).mono ?_; rintro e wz ⟨rfl, hw1⟩; have hw2 := hw1.symm; clear hw1; subst hw2)
    | (go_at_call 25; refine (kinfF _).mono ?_; rintro e wz ⟨rfl, hw1⟩; have hw2 := hw1.symm; clear hw1; subst hw2))
  go_ret
  exact ⟨rfl, BL.out⟩

set_option maxRecDepth 100000 in
theorem krpow7 {a b : Nat} (ha : a < 2 ^ 64) (hb : b < 2 ^ 64) (zb : zeroW b = false) (ea : ((a : Int) == 4607182418800017408) = false) (na : nanW a = false) (nb : nanW b = false) (ib : isInfW b = false) (wb : whB b = false) (za : zeroW a = true) (ia : isInfW a = false) (sb : isNeg b = true) (w : World) : Kb 6 #[wd a, wd b] w (wd (9218868437227405312)) := by
  have BL := Lib.hid (Below.refl w.heap.size w)
  have la := absV_lt ha
  have lb := absV_lt hb
  go_enter Tryz.func6, Tryz.ntmps6
  go_wp2_with (first
    | (go_at_call 29; refine (krNought (by assumption) _).mono ?_; rintro e wz ⟨rfl, hw1⟩; have hw2 := hw1.symm; clear hw1; subst hw2)
    | (go_at_call 30; refine (krNaN (by assumption) _).mono ?_; rintro e wz ⟨rfl, hw1⟩; have hw2 := hw1.symm; clear hw1; subst hw2)
    | (go_at_call 31; refine (krInfQ (by assumption) _).mono ?_; rintro e wz ⟨rfl, hw1⟩; have hw2 := hw1.symm; clear hw1; subst hw2)
    | (go_at_call 32; refine (krwhB hb _).mono ?_; rintro e wk ⟨rfl, bk⟩; have BL := Lib.hid (BL.out.trans (bk.mono BL.out.size)); clear bk)
    | (go_at_call 35; refine (krpower (k := 53) (by omega) _).mono ?_; rintro e wk ⟨rfl, bk⟩; have BL := Lib.hid (BL.out.trans (bk.mono BL.out.size)); clear bk)
    | (go_at_call 33; refine (krabove lb (powW_lt _) _).mono ?_; rintro e wk ⟨rfl, bk⟩; have BL := Lib.hid (BL.out.trans (bk.mono BL.out.size)); clear bk)
    | (go_at_call 37; refine (krNeg0 (by assumption) _).mono ?_; rintro e wz ⟨rfl, hw1⟩; have hw2 := hw1.symm; clear hw1; subst hw2)
    | (go_at_call 34; refine (krabs hb _).mono ?_; rintro e wz ⟨rfl, hw1⟩; have hw2 := hw1.symm; clear hw1; subst hw2))
  go_ret
  exact ⟨rfl, BL.out⟩

set_option maxRecDepth 100000 in
theorem kpow8 {a b : Nat} (ha : a < 2 ^ 64) (hb : b < 2 ^ 64) (zb : zeroW b = false) (ea : ((a : Int) == 4607182418800017408) = false) (na : nanW a = false) (nb : nanW b = false) (ib : isInfW b = false) (wb : whB b = false) (za : zeroW a = true) (ia : isInfW a = false) (sb : isNeg b = false) (l0 : ltB a 0 = false) (w : World) : Kb 5 #[wd a, wd b] w (wd (0)) := by
  have BL := Lib.hid (Below.refl w.heap.size w)
  have la := absV_lt ha
  have lb := absV_lt hb
  go_enter Tryz.func5, Tryz.ntmps5
  go_wp2_with (first
    | (go_at_call 19; refine (kof _ _).mono ?_; rintro e wz ⟨rfl, hw1⟩; have hw2 := hw1.symm; clear hw1; subst hw2)
    | (go_at_call 15; refine (kzero (by assumption) _).mono ?_; rintro e wz ⟨rfl, hw1⟩; have hw2 := hw1.symm; clear hw1; subst hw2)
    | (go_at_call 16; refine (kisnan _ _).mono ?_; rintro e wz ⟨rfl, hw1⟩; have hw2 := hw1.symm; clear hw1; subst hw2)
    | (go_at_call 17; refine (kisinf (by assumption) _).mono ?_; rintro e wz ⟨rfl, hw1⟩; have hw2 := hw1.symm; clear hw1; subst hw2)
    | (go_at_call 18; refine (kwhB hb _).mono ?_; rintro e wk ⟨rfl, bk⟩; have BL := Lib.hid (BL.out.trans (bk.mono BL.out.size)); clear bk)
    | (go_at_call 20; refine (kabs hb _).mono ?_; rintro e wz ⟨rfl, hw1⟩; have hw2 := hw1.symm; clear hw1; subst hw2)
    | (go_at_call 23; refine (knless _ _ _).mono ?_; rintro e wz ⟨rfl, hw1⟩; have hw2 := hw1.symm; clear hw1; subst hw2)
    | (go_at_call 24; refine (knegative hb _).mono ?_; rintro e wz ⟨rfl, hw1⟩; have hw2 := hw1.symm; clear hw1; subst hw2)
    | (go_at_call 25; refine (kinfF _).mono ?_; rintro e wz ⟨rfl, hw1⟩; have hw2 := hw1.symm; clear hw1; subst hw2))
  go_ret
  exact ⟨rfl, BL.out⟩

set_option maxRecDepth 100000 in
theorem krpow8 {a b : Nat} (ha : a < 2 ^ 64) (hb : b < 2 ^ 64) (zb : zeroW b = false) (ea : ((a : Int) == 4607182418800017408) = false) (na : nanW a = false) (nb : nanW b = false) (ib : isInfW b = false) (wb : whB b = false) (za : zeroW a = true) (ia : isInfW a = false) (sb : isNeg b = false) (w : World) : Kb 6 #[wd a, wd b] w (wd (0)) := by
  have BL := Lib.hid (Below.refl w.heap.size w)
  have la := absV_lt ha
  have lb := absV_lt hb
  go_enter Tryz.func6, Tryz.ntmps6
  go_wp2_with (first
    | (go_at_call 29; refine (krNought (by assumption) _).mono ?_; rintro e wz ⟨rfl, hw1⟩; have hw2 := hw1.symm; clear hw1; subst hw2)
    | (go_at_call 30; refine (krNaN (by assumption) _).mono ?_; rintro e wz ⟨rfl, hw1⟩; have hw2 := hw1.symm; clear hw1; subst hw2)
    | (go_at_call 31; refine (krInfQ (by assumption) _).mono ?_; rintro e wz ⟨rfl, hw1⟩; have hw2 := hw1.symm; clear hw1; subst hw2)
    | (go_at_call 32; refine (krwhB hb _).mono ?_; rintro e wk ⟨rfl, bk⟩; have BL := Lib.hid (BL.out.trans (bk.mono BL.out.size)); clear bk)
    | (go_at_call 35; refine (krpower (k := 53) (by omega) _).mono ?_; rintro e wk ⟨rfl, bk⟩; have BL := Lib.hid (BL.out.trans (bk.mono BL.out.size)); clear bk)
    | (go_at_call 33; refine (krabove lb (powW_lt _) _).mono ?_; rintro e wk ⟨rfl, bk⟩; have BL := Lib.hid (BL.out.trans (bk.mono BL.out.size)); clear bk)
    | (go_at_call 37; refine (krNeg0 (by assumption) _).mono ?_; rintro e wz ⟨rfl, hw1⟩; have hw2 := hw1.symm; clear hw1; subst hw2)
    | (go_at_call 34; refine (krabs hb _).mono ?_; rintro e wz ⟨rfl, hw1⟩; have hw2 := hw1.symm; clear hw1; subst hw2))
  go_ret
  exact ⟨rfl, BL.out⟩

set_option maxRecDepth 100000 in
theorem krpow9 {a b : Nat} (ha : a < 2 ^ 64) (hb : b < 2 ^ 64) {t : Bool} (zb : zeroW b = false) (ea : ((a : Int) == 4607182418800017408) = false) (na : nanW a = false) (nb : nanW b = false) (ib : isInfW b = false) (wb : whB b = false) (za : zeroW a = false) (ia : isInfW a = true) (sb : isNeg b = true) (w : World) : Kb 6 #[wd a, wd b] w (wd (0)) := by
  have BL := Lib.hid (Below.refl w.heap.size w)
  have la := absV_lt ha
  have lb := absV_lt hb
  go_enter Tryz.func6, Tryz.ntmps6
  go_wp2_with (first
    | (go_at_call 29; refine (krNought (by assumption) _).mono ?_; rintro e wz ⟨rfl, hw1⟩; have hw2 := hw1.symm; clear hw1; subst hw2)
    | (go_at_call 30; refine (krNaN (by assumption) _).mono ?_; rintro e wz ⟨rfl, hw1⟩; have hw2 := hw1.symm; clear hw1; subst hw2)
    | (go_at_call 31; refine (krInfQ (by assumption) _).mono ?_; rintro e wz ⟨rfl, hw1⟩; have hw2 := hw1.symm; clear hw1; subst hw2)
    | (go_at_call 32; refine (krwhB hb _).mono ?_; rintro e wk ⟨rfl, bk⟩; have BL := Lib.hid (BL.out.trans (bk.mono BL.out.size)); clear bk)
    | (go_at_call 35; refine (krpower (k := 53) (by omega) _).mono ?_; rintro e wk ⟨rfl, bk⟩; have BL := Lib.hid (BL.out.trans (bk.mono BL.out.size)); clear bk)
    | (go_at_call 33; refine (krabove lb (powW_lt _) _).mono ?_; rintro e wk ⟨rfl, bk⟩; have BL := Lib.hid (BL.out.trans (bk.mono BL.out.size)); clear bk)
    | (go_at_call 37; refine (krNeg0 (by assumption) _).mono ?_; rintro e wz ⟨rfl, hw1⟩; have hw2 := hw1.symm; clear hw1; subst hw2)
    | (go_at_call 34; refine (krabs hb _).mono ?_; rintro e wz ⟨rfl, hw1⟩; have hw2 := hw1.symm; clear hw1; subst hw2))
  go_ret
  exact ⟨rfl, BL.out⟩

set_option maxRecDepth 100000 in
theorem kpow9 {a b : Nat} {t : Bool} (ha : a < 2 ^ 64) (hb : b < 2 ^ 64) (zb : zeroW b = false) (ea : ((a : Int) == 4607182418800017408) = false) (na : nanW a = false) (nb : nanW b = false) (ib : isInfW b = false) (wb : whB b = false) (za : zeroW a = false) (ia : isInfW a = true) (sb : isNeg b = true) (l0 : ltB a 0 = t) (w : World) : Kb 5 #[wd a, wd b] w (wd 0) := by
  have BL := Lib.hid (Below.refl w.heap.size w)
  have la := absV_lt ha
  have lb := absV_lt hb
  cases t
  all_goals
    go_enter Tryz.func5, Tryz.ntmps5
    go_wp2_with (first
      | (go_at_call 19; refine (kof _ _).mono ?_; rintro e wz ⟨rfl, hw1⟩; have hw2 := hw1.symm; clear hw1; subst hw2)
      | (go_at_call 15; refine (kzero (by assumption) _).mono ?_; rintro e wz ⟨rfl, hw1⟩; have hw2 := hw1.symm; clear hw1; subst hw2)
      | (go_at_call 16; refine (kisnan _ _).mono ?_; rintro e wz ⟨rfl, hw1⟩; have hw2 := hw1.symm; clear hw1; subst hw2)
      | (go_at_call 17; refine (kisinf (by assumption) _).mono ?_; rintro e wz ⟨rfl, hw1⟩; have hw2 := hw1.symm; clear hw1; subst hw2)
      | (go_at_call 18; refine (kwhB hb _).mono ?_; rintro e wk ⟨rfl, bk⟩; have BL := Lib.hid (BL.out.trans (bk.mono BL.out.size)); clear bk)
      | (go_at_call 20; refine (kabs hb _).mono ?_; rintro e wz ⟨rfl, hw1⟩; have hw2 := hw1.symm; clear hw1; subst hw2)
      | (go_at_call 23; refine (knless _ _ _).mono ?_; rintro e wz ⟨rfl, hw1⟩; have hw2 := hw1.symm; clear hw1; subst hw2)
      | (go_at_call 24; refine (knegative hb _).mono ?_; rintro e wz ⟨rfl, hw1⟩; have hw2 := hw1.symm; clear hw1; subst hw2)
      | (go_at_call 25; refine (kinfF _).mono ?_; rintro e wz ⟨rfl, hw1⟩; have hw2 := hw1.symm; clear hw1; subst hw2))
    go_ret
    exact ⟨rfl, BL.out⟩

set_option maxRecDepth 100000 in
theorem krpow10 {a b : Nat} (ha : a < 2 ^ 64) (hb : b < 2 ^ 64) {t : Bool} (zb : zeroW b = false) (ea : ((a : Int) == 4607182418800017408) = false) (na : nanW a = false) (nb : nanW b = false) (ib : isInfW b = false) (wb : whB b = false) (za : zeroW a = false) (ia : isInfW a = true) (sb : isNeg b = false) (w : World) : Kb 6 #[wd a, wd b] w (wd (9218868437227405312)) := by
  have BL := Lib.hid (Below.refl w.heap.size w)
  have la := absV_lt ha
  have lb := absV_lt hb
  go_enter Tryz.func6, Tryz.ntmps6
  go_wp2_with (first
    | (go_at_call 29; refine (krNought (by assumption) _).mono ?_; rintro e wz ⟨rfl, hw1⟩; have hw2 := hw1.symm; clear hw1; subst hw2)
    | (go_at_call 30; refine (krNaN (by assumption) _).mono ?_; rintro e wz ⟨rfl, hw1⟩; have hw2 := hw1.symm; clear hw1; subst hw2)
    | (go_at_call 31; refine (krInfQ (by assumption) _).mono ?_; rintro e wz ⟨rfl, hw1⟩; have hw2 := hw1.symm; clear hw1; subst hw2)
    | (go_at_call 32; refine (krwhB hb _).mono ?_; rintro e wk ⟨rfl, bk⟩; have BL := Lib.hid (BL.out.trans (bk.mono BL.out.size)); clear bk)
    | (go_at_call 35; refine (krpower (k := 53) (by omega) _).mono ?_; rintro e wk ⟨rfl, bk⟩; have BL := Lib.hid (BL.out.trans (bk.mono BL.out.size)); clear bk)
    | (go_at_call 33; refine (krabove lb (powW_lt _) _).mono ?_; rintro e wk ⟨rfl, bk⟩; have BL := Lib.hid (BL.out.trans (bk.mono BL.out.size)); clear bk)
    | (go_at_call 37; refine (krNeg0 (by assumption) _).mono ?_; rintro e wz ⟨rfl, hw1⟩; have hw2 := hw1.symm; clear hw1; subst hw2)
    | (go_at_call 34; refine (krabs hb _).mono ?_; rintro e wz ⟨rfl, hw1⟩; have hw2 := hw1.symm; clear hw1; subst hw2))
  go_ret
  exact ⟨rfl, BL.out⟩

set_option maxRecDepth 100000 in
theorem kpow10 {a b : Nat} {t : Bool} (ha : a < 2 ^ 64) (hb : b < 2 ^ 64) (zb : zeroW b = false) (ea : ((a : Int) == 4607182418800017408) = false) (na : nanW a = false) (nb : nanW b = false) (ib : isInfW b = false) (wb : whB b = false) (za : zeroW a = false) (ia : isInfW a = true) (sb : isNeg b = false) (l0 : ltB a 0 = t) (w : World) : Kb 5 #[wd a, wd b] w (wd 9218868437227405312) := by
  have BL := Lib.hid (Below.refl w.heap.size w)
  have la := absV_lt ha
  have lb := absV_lt hb
  cases t
  all_goals
    go_enter Tryz.func5, Tryz.ntmps5
    go_wp2_with (first
      | (go_at_call 19; refine (kof _ _).mono ?_; rintro e wz ⟨rfl, hw1⟩; have hw2 := hw1.symm; clear hw1; subst hw2)
      | (go_at_call 15; refine (kzero (by assumption) _).mono ?_; rintro e wz ⟨rfl, hw1⟩; have hw2 := hw1.symm; clear hw1; subst hw2)
      | (go_at_call 16; refine (kisnan _ _).mono ?_; rintro e wz ⟨rfl, hw1⟩; have hw2 := hw1.symm; clear hw1; subst hw2)
      | (go_at_call 17; refine (kisinf (by assumption) _).mono ?_; rintro e wz ⟨rfl, hw1⟩; have hw2 := hw1.symm; clear hw1; subst hw2)
      | (go_at_call 18; refine (kwhB hb _).mono ?_; rintro e wk ⟨rfl, bk⟩; have BL := Lib.hid (BL.out.trans (bk.mono BL.out.size)); clear bk)
      | (go_at_call 20; refine (kabs hb _).mono ?_; rintro e wz ⟨rfl, hw1⟩; have hw2 := hw1.symm; clear hw1; subst hw2)
      | (go_at_call 23; refine (knless _ _ _).mono ?_; rintro e wz ⟨rfl, hw1⟩; have hw2 := hw1.symm; clear hw1; subst hw2)
      | (go_at_call 24; refine (knegative hb _).mono ?_; rintro e wz ⟨rfl, hw1⟩; have hw2 := hw1.symm; clear hw1; subst hw2)
      | (go_at_call 25; refine (kinfF _).mono ?_; rintro e wz ⟨rfl, hw1⟩; have hw2 := hw1.symm; clear hw1; subst hw2))
    go_ret
    exact ⟨rfl, BL.out⟩

set_option maxRecDepth 100000 in
theorem kpow11 {a b : Nat} (ha : a < 2 ^ 64) (hb : b < 2 ^ 64) (zb : zeroW b = false) (ea : ((a : Int) == 4607182418800017408) = false) (na : nanW a = false) (nb : nanW b = false) (ib : isInfW b = false) (wb : whB b = false) (za : zeroW a = false) (ia : isInfW a = false) (sa : isNeg a = true) (l0 : ltB a 0 = true) (w : World) : Kb 5 #[wd a, wd b] w (wd (theNaN)) := by
  have BL := Lib.hid (Below.refl w.heap.size w)
  have la := absV_lt ha
  have lb := absV_lt hb
  go_enter Tryz.func5, Tryz.ntmps5
  go_wp2_with (first
    | (go_at_call 19; refine (kof _ _).mono ?_; rintro e wz ⟨rfl, hw1⟩; have hw2 := hw1.symm; clear hw1; subst hw2)
    | (go_at_call 15; refine (kzero (by assumption) _).mono ?_; rintro e wz ⟨rfl, hw1⟩; have hw2 := hw1.symm; clear hw1; subst hw2)
    | (go_at_call 16; refine (kisnan _ _).mono ?_; rintro e wz ⟨rfl, hw1⟩; have hw2 := hw1.symm; clear hw1; subst hw2)
    | (go_at_call 17; refine (kisinf (by assumption) _).mono ?_; rintro e wz ⟨rfl, hw1⟩; have hw2 := hw1.symm; clear hw1; subst hw2)
    | (go_at_call 18; refine (kwhB hb _).mono ?_; rintro e wk ⟨rfl, bk⟩; have BL := Lib.hid (BL.out.trans (bk.mono BL.out.size)); clear bk)
    | (go_at_call 20; refine (kabs hb _).mono ?_; rintro e wz ⟨rfl, hw1⟩; have hw2 := hw1.symm; clear hw1; subst hw2)
    | (go_at_call 23; refine (knless _ _ _).mono ?_; rintro e wz ⟨rfl, hw1⟩; have hw2 := hw1.symm; clear hw1; subst hw2)
    | (go_at_call 24; refine (knegative hb _).mono ?_; rintro e wz ⟨rfl, hw1⟩; have hw2 := hw1.symm; clear hw1; subst hw2)
    | (go_at_call 25; refine (kinfF _).mono ?_; rintro e wz ⟨rfl, hw1⟩; have hw2 := hw1.symm; clear hw1; subst hw2))
  go_ret
  exact ⟨rfl, BL.out⟩

set_option maxRecDepth 100000 in
theorem krpow11 {a b : Nat} (ha : a < 2 ^ 64) (hb : b < 2 ^ 64) (zb : zeroW b = false) (ea : ((a : Int) == 4607182418800017408) = false) (na : nanW a = false) (nb : nanW b = false) (ib : isInfW b = false) (wb : whB b = false) (za : zeroW a = false) (ia : isInfW a = false) (sa : isNeg a = true) (w : World) : Kb 6 #[wd a, wd b] w (wd (theNaN)) := by
  have BL := Lib.hid (Below.refl w.heap.size w)
  have la := absV_lt ha
  have lb := absV_lt hb
  go_enter Tryz.func6, Tryz.ntmps6
  go_wp2_with (first
    | (go_at_call 29; refine (krNought (by assumption) _).mono ?_; rintro e wz ⟨rfl, hw1⟩; have hw2 := hw1.symm; clear hw1; subst hw2)
    | (go_at_call 30; refine (krNaN (by assumption) _).mono ?_; rintro e wz ⟨rfl, hw1⟩; have hw2 := hw1.symm; clear hw1; subst hw2)
    | (go_at_call 31; refine (krInfQ (by assumption) _).mono ?_; rintro e wz ⟨rfl, hw1⟩; have hw2 := hw1.symm; clear hw1; subst hw2)
    | (go_at_call 32; refine (krwhB hb _).mono ?_; rintro e wk ⟨rfl, bk⟩; have BL := Lib.hid (BL.out.trans (bk.mono BL.out.size)); clear bk)
    | (go_at_call 35; refine (krpower (k := 53) (by omega) _).mono ?_; rintro e wk ⟨rfl, bk⟩; have BL := Lib.hid (BL.out.trans (bk.mono BL.out.size)); clear bk)
    | (go_at_call 33; refine (krabove lb (powW_lt _) _).mono ?_; rintro e wk ⟨rfl, bk⟩; have BL := Lib.hid (BL.out.trans (bk.mono BL.out.size)); clear bk)
    | (go_at_call 37; refine (krNeg0 (by assumption) _).mono ?_; rintro e wz ⟨rfl, hw1⟩; have hw2 := hw1.symm; clear hw1; subst hw2)
    | (go_at_call 34; refine (krabs hb _).mono ?_; rintro e wz ⟨rfl, hw1⟩; have hw2 := hw1.symm; clear hw1; subst hw2))
  go_ret
  exact ⟨rfl, BL.out⟩

set_option maxRecDepth 100000 in
theorem kpow12 {a b : Nat} (ha : a < 2 ^ 64) (hb : b < 2 ^ 64) (zb : zeroW b = false) (ea : ((a : Int) == 4607182418800017408) = false) (na : nanW a = false) (nb : nanW b = false) (ib : isInfW b = false) (wb : whB b = false) (za : zeroW a = false) (ia : isInfW a = false) (sa : isNeg a = false) (l0 : ltB a 0 = false) (w : World) : Kb 5 #[wd a, wd b] w (wd (powE a b)) := by
  have BL := Lib.hid (Below.refl w.heap.size w)
  have la := absV_lt ha
  have lb := absV_lt hb
  cases sb : isNeg b
  all_goals
    go_enter Tryz.func5, Tryz.ntmps5
    go_wp2_with (first
      | (go_at_call 19; refine (kof _ _).mono ?_; rintro e wz ⟨rfl, hw1⟩; have hw2 := hw1.symm; clear hw1; subst hw2)
      | (go_at_call 15; refine (kzero (by assumption) _).mono ?_; rintro e wz ⟨rfl, hw1⟩; have hw2 := hw1.symm; clear hw1; subst hw2)
      | (go_at_call 16; refine (kisnan _ _).mono ?_; rintro e wz ⟨rfl, hw1⟩; have hw2 := hw1.symm; clear hw1; subst hw2)
      | (go_at_call 17; refine (kisinf (by assumption) _).mono ?_; rintro e wz ⟨rfl, hw1⟩; have hw2 := hw1.symm; clear hw1; subst hw2)
      | (go_at_call 18; refine (kwhB hb _).mono ?_; rintro e wk ⟨rfl, bk⟩; have BL := Lib.hid (BL.out.trans (bk.mono BL.out.size)); clear bk)
      | (go_at_call 20; refine (kabs hb _).mono ?_; rintro e wz ⟨rfl, hw1⟩; have hw2 := hw1.symm; clear hw1; subst hw2)
      | (go_at_call 23; refine (knless _ _ _).mono ?_; rintro e wz ⟨rfl, hw1⟩; have hw2 := hw1.symm; clear hw1; subst hw2)
      | (go_at_call 24; refine (knegative hb _).mono ?_; rintro e wz ⟨rfl, hw1⟩; have hw2 := hw1.symm; clear hw1; subst hw2)
      | (go_at_call 25; refine (kinfF _).mono ?_; rintro e wz ⟨rfl, hw1⟩; have hw2 := hw1.symm; clear hw1; subst hw2)
      | (go_at_call 28; refine (kln ha _).mono ?_; rintro e wk ⟨rfl, bk⟩; have BL := Lib.hid (BL.out.trans (bk.mono BL.out.size)); clear bk)
      | (go_at_call 27; refine (kM _ _ _).mono ?_; rintro e wk ⟨rfl, nk, hw⟩; have BL := Lib.hid (show Below w.heap.size w wk by rw [hw]; first | exact BL.out.trans (drew_below _ _ _) | exact (BL.out.trans (drew_below _ _ _)).trans (drew_below _ _ _) | exact (BL.out.alloc BL.out.size _).trans (drew_below _ _ _)); clear hw)
      | (go_at_call 26; refine (kexp (dM_lt _ _) _).mono ?_; rintro e wk ⟨rfl, bk⟩; have BL := Lib.hid (BL.out.trans (bk.mono BL.out.size)); clear bk))
    go_ret
    exact ⟨rfl, BL.out⟩

set_option maxRecDepth 100000 in
theorem krpow12 {a b : Nat} (ha : a < 2 ^ 64) (hb : b < 2 ^ 64) (zb : zeroW b = false) (ea : ((a : Int) == 4607182418800017408) = false) (na : nanW a = false) (nb : nanW b = false) (ib : isInfW b = false) (wb : whB b = false) (za : zeroW a = false) (ia : isInfW a = false) (sa : isNeg a = false) (w : World) : Kb 6 #[wd a, wd b] w (wd (powE a b)) := by
  have BL := Lib.hid (Below.refl w.heap.size w)
  have la := absV_lt ha
  have lb := absV_lt hb
  cases sb : isNeg b
  all_goals
    go_enter Tryz.func6, Tryz.ntmps6
    go_wp2_with (first
      | (go_at_call 29; refine (krNought (by assumption) _).mono ?_; rintro e wz ⟨rfl, hw1⟩; have hw2 := hw1.symm; clear hw1; subst hw2)
      | (go_at_call 30; refine (krNaN (by assumption) _).mono ?_; rintro e wz ⟨rfl, hw1⟩; have hw2 := hw1.symm; clear hw1; subst hw2)
      | (go_at_call 31; refine (krInfQ (by assumption) _).mono ?_; rintro e wz ⟨rfl, hw1⟩; have hw2 := hw1.symm; clear hw1; subst hw2)
      | (go_at_call 32; refine (krwhB hb _).mono ?_; rintro e wk ⟨rfl, bk⟩; have BL := Lib.hid (BL.out.trans (bk.mono BL.out.size)); clear bk)
      | (go_at_call 35; refine (krpower (k := 53) (by omega) _).mono ?_; rintro e wk ⟨rfl, bk⟩; have BL := Lib.hid (BL.out.trans (bk.mono BL.out.size)); clear bk)
      | (go_at_call 33; refine (krabove lb (powW_lt _) _).mono ?_; rintro e wk ⟨rfl, bk⟩; have BL := Lib.hid (BL.out.trans (bk.mono BL.out.size)); clear bk)
      | (go_at_call 37; refine (krNeg0 (by assumption) _).mono ?_; rintro e wz ⟨rfl, hw1⟩; have hw2 := hw1.symm; clear hw1; subst hw2)
      | (go_at_call 34; refine (krabs hb _).mono ?_; rintro e wz ⟨rfl, hw1⟩; have hw2 := hw1.symm; clear hw1; subst hw2)
      | (go_at_call 42; refine (krln ha _).mono ?_; rintro e wk ⟨rfl, bk⟩; have BL := Lib.hid (BL.out.trans (bk.mono BL.out.size)); clear bk)
      | (go_at_call 39; refine (rM (by first | assumption | exact lnW_lt (by assumption) | exact dM_lt _ _) (by first | assumption | exact lnW_lt (by assumption) | exact dM_lt _ _) _).mono ?_; rintro e wk ⟨rfl, bk⟩; have BL := Lib.hid (BL.out.trans (bk.mono BL.out.size)); clear bk)
      | (go_at_call 41; refine (krexp (dM_lt _ _) _).mono ?_; rintro e wk ⟨rfl, bk⟩; have BL := Lib.hid (BL.out.trans (bk.mono BL.out.size)); clear bk))
    go_ret
    exact ⟨rfl, BL.out⟩

theorem kpow {a b : Nat} (ha : a < 2 ^ 64) (hb : b < 2 ^ 64) (w : World) (hT : TabW w) : Kb 5 #[wd a, wd b] w (wd (powF a b)) := by
  have fbe : (FloatKind.f64.format.order (absV b) 4845873199050653696 == some .gt) = ltB 4845873199050653696 (absV b) := gt_lt _ _
  have nA : nanW a = false → nanW (absV a) = false := fun na => (absV_eq na).2.2.2
  unfold powF
  cases zb : zeroW b
  · by_cases he : a = 4607182418800017408
    · have ea : ((a : Int) == 4607182418800017408) = true := by rw [he]; rfl
      rw [if_pos (by simp [he])]; exact kpow1 ha hb zb ea w
    · have ea : ((a : Int) == 4607182418800017408) = false := by simpa using fun h : (a : Int) = 4607182418800017408 => he (by omega)
      rw [if_neg (by simp [he])]
      cases na : nanW a
      · have nA := nA na
        cases nb : nanW b
        · rw [if_neg (by decide)]
          cases ib : isInfW b
          · cases wb : whB b
            · rw [if_neg (by simp), if_neg (by decide)]
              have l0 := lt_zero na
              cases za : zeroW a
              · rw [if_neg (by decide)]
                cases ia : isInfW a
                · rw [if_neg (by decide)]
                  cases sa : isNeg a
                  · rw [if_neg (by decide)]; rw [za, sa] at l0; exact kpow12 ha hb zb ea na nb ib wb za ia sa l0 w
                  · rw [if_pos rfl]; rw [za, sa] at l0; exact kpow11 ha hb zb ea na nb ib wb za ia sa l0 w
                · rw [if_pos rfl]
                  cases sb : isNeg b
                  · rw [if_neg (by decide)]; exact kpow10 ha hb zb ea na nb ib wb za ia sb l0 w
                  · rw [if_pos rfl]; exact kpow9 ha hb zb ea na nb ib wb za ia sb l0 w
              · rw [if_pos rfl]
                rw [za] at l0
                cases sb : isNeg b
                · rw [if_neg (by decide)]; exact kpow8 ha hb zb ea na nb ib wb za (zero_inf za) sb l0 w
                · rw [if_pos rfl]; exact kpow7 ha hb zb ea na nb ib wb za (zero_inf za) sb l0 w
            · cases fb : ltB 4845873199050653696 (absV b)
              · rw [if_neg (by decide), if_pos rfl]; rw [fb] at fbe; exact kpow6 ha hb zb ea na nb ib wb fbe w hT
              · rw [if_pos (by decide)]; rw [fb] at fbe; exact kpow5 ha hb zb ea na nb ib wb fbe w
          · rw [if_pos (by simp)]; exact kpow4 ha hb zb ea na nb ib w
        · rw [if_pos (by decide)]; exact kpow3 ha hb zb ea na nb w
      · rw [if_pos (by simp)]; exact kpow2 ha hb zb ea na w
  · rw [if_pos (by simp)]; exact kpow0 ha hb zb w

theorem krpow {a b : Nat} (ha : a < 2 ^ 64) (hb : b < 2 ^ 64) (w : World) : Kb 6 #[wd a, wd b] w (wd (powF a b)) := by
  have fbe : ltB (powW 53) (absV b) = ltB 4845873199050653696 (absV b) := by rw [int53]
  have nA : nanW a = false → nanW (absV a) = false := fun na => (absV_eq na).2.2.2
  unfold powF
  cases zb : zeroW b
  · by_cases he : a = 4607182418800017408
    · have ea : ((a : Int) == 4607182418800017408) = true := by rw [he]; rfl
      rw [if_pos (by simp [he])]; exact krpow1 ha hb zb ea w
    · have ea : ((a : Int) == 4607182418800017408) = false := by simpa using fun h : (a : Int) = 4607182418800017408 => he (by omega)
      rw [if_neg (by simp [he])]
      cases na : nanW a
      · have nA := nA na
        cases nb : nanW b
        · rw [if_neg (by decide)]
          cases ib : isInfW b
          · cases wb : whB b
            · rw [if_neg (by simp), if_neg (by decide)]
              have l0 := lt_zero na
              cases za : zeroW a
              · rw [if_neg (by decide)]
                cases ia : isInfW a
                · rw [if_neg (by decide)]
                  cases sa : isNeg a
                  · rw [if_neg (by decide)]; rw [za, sa] at l0; exact krpow12 ha hb zb ea na nb ib wb za ia sa w
                  · rw [if_pos rfl]; rw [za, sa] at l0; exact krpow11 ha hb zb ea na nb ib wb za ia sa w
                · rw [if_pos rfl]
                  cases sb : isNeg b
                  · rw [if_neg (by decide)]; exact krpow10 (t := true) ha hb zb ea na nb ib wb za ia sb w
                  · rw [if_pos rfl]; exact krpow9 (t := true) ha hb zb ea na nb ib wb za ia sb w
              · rw [if_pos rfl]
                rw [za] at l0
                cases sb : isNeg b
                · rw [if_neg (by decide)]; exact krpow8 ha hb zb ea na nb ib wb za (zero_inf za) sb w
                · rw [if_pos rfl]; exact krpow7 ha hb zb ea na nb ib wb za (zero_inf za) sb w
            · cases fb : ltB 4845873199050653696 (absV b)
              · rw [if_neg (by decide), if_pos rfl]; rw [fb] at fbe; obtain ⟨p1, p2⟩ := powN_of hb; exact krpow6 ha hb zb ea na nb ib wb fbe p1 p2 rfl rfl w
              · rw [if_pos (by decide)]; rw [fb] at fbe; exact krpow5 ha hb zb ea na nb ib wb fbe (krCmp (absV_lt ha) (by decide)) (eq_cmp nA).symm (ltB_cmp _ _).symm rfl w
          · rw [if_pos (by simp)]; exact krpow4 ha hb zb ea na nb ib (krCmp (absV_lt ha) (by decide)) (eq_cmp nA).symm (ltB_cmp _ _).symm rfl w
        · rw [if_pos (by decide)]; exact krpow3 ha hb zb ea na nb w
      · rw [if_pos (by simp)]; exact krpow2 ha hb zb ea na w
  · rw [if_pos (by simp)]; exact krpow0 ha hb zb w

theorem katw1 {a b : Nat} (ha : a < 2 ^ 64) (hb : b < 2 ^ 64) (na : nanW a = true) (w : World) : Kb 7 #[wd a, wd b] w (wd (theNaN)) := by
  have BL := Lib.hid (Below.refl w.heap.size w)
  go_enter Tryz.func7, Tryz.ntmps7
  go_wp2_with (first
    | (go_at_call 13; refine (kD _ _ _).mono ?_; rintro e wk ⟨rfl, nk, hw⟩; have BL := Lib.hid (show Below w.heap.size w wk by rw [hw]; first | exact BL.out.trans (drew_below _ _ _) | exact (BL.out.trans (drew_below _ _ _)).trans (drew_below _ _ _) | exact (BL.out.alloc BL.out.size _).trans (drew_below _ _ _)); clear hw)
    | (go_at_call 44; refine (kS _ _ _).mono ?_; rintro e wk ⟨rfl, nk, hw⟩; have BL := Lib.hid (show Below w.heap.size w wk by rw [hw]; first | exact BL.out.trans (drew_below _ _ _) | exact (BL.out.trans (drew_below _ _ _)).trans (drew_below _ _ _) | exact (BL.out.alloc BL.out.size _).trans (drew_below _ _ _)); clear hw)
    | (go_at_call 12; refine (kA _ _ _).mono ?_; rintro e wk ⟨rfl, nk, hw⟩; have BL := Lib.hid (show Below w.heap.size w wk by rw [hw]; first | exact BL.out.trans (drew_below _ _ _) | exact (BL.out.trans (drew_below _ _ _)).trans (drew_below _ _ _) | exact (BL.out.alloc BL.out.size _).trans (drew_below _ _ _)); clear hw)
    | (go_at_call 16; refine (kisnan _ _).mono ?_; rintro e wz ⟨rfl, hw1⟩; have hw2 := hw1.symm; clear hw1; subst hw2)
    | (go_at_call 23; refine (knless _ _ _).mono ?_; rintro e wz ⟨rfl, hw1⟩; have hw2 := hw1.symm; clear hw1; subst hw2)
    | (go_at_call 43; refine (katan (dD_lt _ _) _).mono ?_; rintro e wk ⟨rfl, bk⟩; have BL := Lib.hid (BL.out.trans (bk.mono BL.out.size)); clear bk)
    | (go_at_call 24; refine (knegative (by assumption) _).mono ?_; rintro e wz ⟨rfl, hw1⟩; have hw2 := hw1.symm; clear hw1; subst hw2)
    | (go_at_call 15; refine (kzero ha _).mono ?_; rintro e wz ⟨rfl, hw1⟩; have hw2 := hw1.symm; clear hw1; subst hw2)
    | (go_at_call 45; refine (ksigned (by decide) ha _).mono ?_; rintro e wz ⟨rfl, hw1⟩; have hw2 := hw1.symm; clear hw1; subst hw2))
  go_ret
  exact ⟨rfl, BL.out⟩

theorem kratw1 {a b : Nat} (ha : a < 2 ^ 64) (hb : b < 2 ^ 64) (na : nanW a = true) (w : World) : Kb 8 #[wd a, wd b] w (wd (theNaN)) := by
  have BL := Lib.hid (Below.refl w.heap.size w)
  go_enter Tryz.func8, Tryz.ntmps8
  go_wp2_with (first
    | (go_at_call 30; refine (krNaN (by assumption) _).mono ?_; rintro e wz ⟨rfl, hw1⟩; have hw2 := hw1.symm; clear hw1; subst hw2)
    | (go_at_call 33; refine (krabove (by first | assumption | decide) (by first | assumption | decide) _).mono ?_; rintro e wk ⟨rfl, bk⟩; have BL := Lib.hid (BL.out.trans (bk.mono BL.out.size)); clear bk)
    | (go_at_call 47; refine (krbelow (by first | assumption | decide) (by first | assumption | decide) _).mono ?_; rintro e wk ⟨rfl, bk⟩; have BL := Lib.hid (BL.out.trans (bk.mono BL.out.size)); clear bk)
    | (go_at_call 40; refine (rD ha hb _).mono ?_; rintro e wk ⟨rfl, bk⟩; have BL := Lib.hid (BL.out.trans (bk.mono BL.out.size)); clear bk)
    | (go_at_call 46; refine (kratan (dD_lt _ _) _).mono ?_; rintro e wk ⟨rfl, bk⟩; have BL := Lib.hid (BL.out.trans (bk.mono BL.out.size)); clear bk)
    | (go_at_call 48; refine (rA (atanW_lt _) (by decide) _).mono ?_; rintro e wk ⟨rfl, bk⟩; have BL := Lib.hid (BL.out.trans (bk.mono BL.out.size)); clear bk)
    | (go_at_call 49; refine (rS (atanW_lt _) (by decide) _).mono ?_; rintro e wk ⟨rfl, bk⟩; have BL := Lib.hid (BL.out.trans (bk.mono BL.out.size)); clear bk)
    | (go_at_call 37; refine (krNeg0 (by assumption) _).mono ?_; rintro e wz ⟨rfl, hw1⟩; have hw2 := hw1.symm; clear hw1; subst hw2)
    | (go_at_call 50; refine (krneg (by decide) _).mono ?_; rintro e wz ⟨rfl, hw1⟩; have hw2 := hw1.symm; clear hw1; subst hw2)
    | (go_at_call 51; refine (krsigned (by decide) ha _).mono ?_; rintro e wz ⟨rfl, hw1⟩; have hw2 := hw1.symm; clear hw1; subst hw2))
  go_ret
  exact ⟨rfl, BL.out⟩

theorem katw2 {a b : Nat} (ha : a < 2 ^ 64) (hb : b < 2 ^ 64) (na : nanW a = false) (nb : nanW b = true) (w : World) : Kb 7 #[wd a, wd b] w (wd (theNaN)) := by
  have BL := Lib.hid (Below.refl w.heap.size w)
  go_enter Tryz.func7, Tryz.ntmps7
  go_wp2_with (first
    | (go_at_call 13; refine (kD _ _ _).mono ?_; rintro e wk ⟨rfl, nk, hw⟩; have BL := Lib.hid (show Below w.heap.size w wk by rw [hw]; first | exact BL.out.trans (drew_below _ _ _) | exact (BL.out.trans (drew_below _ _ _)).trans (drew_below _ _ _) | exact (BL.out.alloc BL.out.size _).trans (drew_below _ _ _)); clear hw)
    | (go_at_call 44; refine (kS _ _ _).mono ?_; rintro e wk ⟨rfl, nk, hw⟩; have BL := Lib.hid (show Below w.heap.size w wk by rw [hw]; first | exact BL.out.trans (drew_below _ _ _) | exact (BL.out.trans (drew_below _ _ _)).trans (drew_below _ _ _) | exact (BL.out.alloc BL.out.size _).trans (drew_below _ _ _)); clear hw)
    | (go_at_call 12; refine (kA _ _ _).mono ?_; rintro e wk ⟨rfl, nk, hw⟩; have BL := Lib.hid (show Below w.heap.size w wk by rw [hw]; first | exact BL.out.trans (drew_below _ _ _) | exact (BL.out.trans (drew_below _ _ _)).trans (drew_below _ _ _) | exact (BL.out.alloc BL.out.size _).trans (drew_below _ _ _)); clear hw)
    | (go_at_call 16; refine (kisnan _ _).mono ?_; rintro e wz ⟨rfl, hw1⟩; have hw2 := hw1.symm; clear hw1; subst hw2)
    | (go_at_call 23; refine (knless _ _ _).mono ?_; rintro e wz ⟨rfl, hw1⟩; have hw2 := hw1.symm; clear hw1; subst hw2)
    | (go_at_call 43; refine (katan (dD_lt _ _) _).mono ?_; rintro e wk ⟨rfl, bk⟩; have BL := Lib.hid (BL.out.trans (bk.mono BL.out.size)); clear bk)
    | (go_at_call 24; refine (knegative (by assumption) _).mono ?_; rintro e wz ⟨rfl, hw1⟩; have hw2 := hw1.symm; clear hw1; subst hw2)
    | (go_at_call 15; refine (kzero ha _).mono ?_; rintro e wz ⟨rfl, hw1⟩; have hw2 := hw1.symm; clear hw1; subst hw2)
    | (go_at_call 45; refine (ksigned (by decide) ha _).mono ?_; rintro e wz ⟨rfl, hw1⟩; have hw2 := hw1.symm; clear hw1; subst hw2))
  go_ret
  exact ⟨rfl, BL.out⟩

theorem kratw2 {a b : Nat} (ha : a < 2 ^ 64) (hb : b < 2 ^ 64) (na : nanW a = false) (nb : nanW b = true) (w : World) : Kb 8 #[wd a, wd b] w (wd (theNaN)) := by
  have BL := Lib.hid (Below.refl w.heap.size w)
  go_enter Tryz.func8, Tryz.ntmps8
  go_wp2_with (first
    | (go_at_call 30; refine (krNaN (by assumption) _).mono ?_; rintro e wz ⟨rfl, hw1⟩; have hw2 := hw1.symm; clear hw1; subst hw2)
    | (go_at_call 33; refine (krabove (by first | assumption | decide) (by first | assumption | decide) _).mono ?_; rintro e wk ⟨rfl, bk⟩; have BL := Lib.hid (BL.out.trans (bk.mono BL.out.size)); clear bk)
    | (go_at_call 47; refine (krbelow (by first | assumption | decide) (by first | assumption | decide) _).mono ?_; rintro e wk ⟨rfl, bk⟩; have BL := Lib.hid (BL.out.trans (bk.mono BL.out.size)); clear bk)
    | (go_at_call 40; refine (rD ha hb _).mono ?_; rintro e wk ⟨rfl, bk⟩; have BL := Lib.hid (BL.out.trans (bk.mono BL.out.size)); clear bk)
    | (go_at_call 46; refine (kratan (dD_lt _ _) _).mono ?_; rintro e wk ⟨rfl, bk⟩; have BL := Lib.hid (BL.out.trans (bk.mono BL.out.size)); clear bk)
    | (go_at_call 48; refine (rA (atanW_lt _) (by decide) _).mono ?_; rintro e wk ⟨rfl, bk⟩; have BL := Lib.hid (BL.out.trans (bk.mono BL.out.size)); clear bk)
    | (go_at_call 49; refine (rS (atanW_lt _) (by decide) _).mono ?_; rintro e wk ⟨rfl, bk⟩; have BL := Lib.hid (BL.out.trans (bk.mono BL.out.size)); clear bk)
    | (go_at_call 37; refine (krNeg0 (by assumption) _).mono ?_; rintro e wz ⟨rfl, hw1⟩; have hw2 := hw1.symm; clear hw1; subst hw2)
    | (go_at_call 50; refine (krneg (by decide) _).mono ?_; rintro e wz ⟨rfl, hw1⟩; have hw2 := hw1.symm; clear hw1; subst hw2)
    | (go_at_call 51; refine (krsigned (by decide) ha _).mono ?_; rintro e wz ⟨rfl, hw1⟩; have hw2 := hw1.symm; clear hw1; subst hw2))
  go_ret
  exact ⟨rfl, BL.out⟩

theorem katw3 {a b : Nat} (ha : a < 2 ^ 64) (hb : b < 2 ^ 64) (na : nanW a = false) (nb : nanW b = false) (h1 : ltB 0 b = true) (w : World) : Kb 7 #[wd a, wd b] w (wd (atanW (dD a b))) := by
  have BL := Lib.hid (Below.refl w.heap.size w)
  go_enter Tryz.func7, Tryz.ntmps7
  go_wp2_with (first
    | (go_at_call 13; refine (kD _ _ _).mono ?_; rintro e wk ⟨rfl, nk, hw⟩; have BL := Lib.hid (show Below w.heap.size w wk by rw [hw]; first | exact BL.out.trans (drew_below _ _ _) | exact (BL.out.trans (drew_below _ _ _)).trans (drew_below _ _ _) | exact (BL.out.alloc BL.out.size _).trans (drew_below _ _ _)); clear hw)
    | (go_at_call 44; refine (kS _ _ _).mono ?_; rintro e wk ⟨rfl, nk, hw⟩; have BL := Lib.hid (show Below w.heap.size w wk by rw [hw]; first | exact BL.out.trans (drew_below _ _ _) | exact (BL.out.trans (drew_below _ _ _)).trans (drew_below _ _ _) | exact (BL.out.alloc BL.out.size _).trans (drew_below _ _ _)); clear hw)
    | (go_at_call 12; refine (kA _ _ _).mono ?_; rintro e wk ⟨rfl, nk, hw⟩; have BL := Lib.hid (show Below w.heap.size w wk by rw [hw]; first | exact BL.out.trans (drew_below _ _ _) | exact (BL.out.trans (drew_below _ _ _)).trans (drew_below _ _ _) | exact (BL.out.alloc BL.out.size _).trans (drew_below _ _ _)); clear hw)
    | (go_at_call 16; refine (kisnan _ _).mono ?_; rintro e wz ⟨rfl, hw1⟩; have hw2 := hw1.symm; clear hw1; subst hw2)
    | (go_at_call 23; refine (knless _ _ _).mono ?_; rintro e wz ⟨rfl, hw1⟩; have hw2 := hw1.symm; clear hw1; subst hw2)
    | (go_at_call 43; refine (katan (dD_lt _ _) _).mono ?_; rintro e wk ⟨rfl, bk⟩; have BL := Lib.hid (BL.out.trans (bk.mono BL.out.size)); clear bk)
    | (go_at_call 24; refine (knegative (by assumption) _).mono ?_; rintro e wz ⟨rfl, hw1⟩; have hw2 := hw1.symm; clear hw1; subst hw2)
    | (go_at_call 15; refine (kzero ha _).mono ?_; rintro e wz ⟨rfl, hw1⟩; have hw2 := hw1.symm; clear hw1; subst hw2)
    | (go_at_call 45; refine (ksigned (by decide) ha _).mono ?_; rintro e wz ⟨rfl, hw1⟩; have hw2 := hw1.symm; clear hw1; subst hw2))
  go_ret
  exact ⟨rfl, BL.out⟩

theorem kratw3 {a b : Nat} (ha : a < 2 ^ 64) (hb : b < 2 ^ 64) (na : nanW a = false) (nb : nanW b = false) (h1 : ltB 0 b = true) (w : World) : Kb 8 #[wd a, wd b] w (wd (atanW (dD a b))) := by
  have BL := Lib.hid (Below.refl w.heap.size w)
  go_enter Tryz.func8, Tryz.ntmps8
  go_wp2_with (first
    | (go_at_call 30; refine (krNaN (by assumption) _).mono ?_; rintro e wz ⟨rfl, hw1⟩; have hw2 := hw1.symm; clear hw1; subst hw2)
    | (go_at_call 33; refine (krabove (by first | assumption | decide) (by first | assumption | decide) _).mono ?_; rintro e wk ⟨rfl, bk⟩; have BL := Lib.hid (BL.out.trans (bk.mono BL.out.size)); clear bk)
    | (go_at_call 47; refine (krbelow (by first | assumption | decide) (by first | assumption | decide) _).mono ?_; rintro e wk ⟨rfl, bk⟩; have BL := Lib.hid (BL.out.trans (bk.mono BL.out.size)); clear bk)
    | (go_at_call 40; refine (rD ha hb _).mono ?_; rintro e wk ⟨rfl, bk⟩; have BL := Lib.hid (BL.out.trans (bk.mono BL.out.size)); clear bk)
    | (go_at_call 46; refine (kratan (dD_lt _ _) _).mono ?_; rintro e wk ⟨rfl, bk⟩; have BL := Lib.hid (BL.out.trans (bk.mono BL.out.size)); clear bk)
    | (go_at_call 48; refine (rA (atanW_lt _) (by decide) _).mono ?_; rintro e wk ⟨rfl, bk⟩; have BL := Lib.hid (BL.out.trans (bk.mono BL.out.size)); clear bk)
    | (go_at_call 49; refine (rS (atanW_lt _) (by decide) _).mono ?_; rintro e wk ⟨rfl, bk⟩; have BL := Lib.hid (BL.out.trans (bk.mono BL.out.size)); clear bk)
    | (go_at_call 37; refine (krNeg0 (by assumption) _).mono ?_; rintro e wz ⟨rfl, hw1⟩; have hw2 := hw1.symm; clear hw1; subst hw2)
    | (go_at_call 50; refine (krneg (by decide) _).mono ?_; rintro e wz ⟨rfl, hw1⟩; have hw2 := hw1.symm; clear hw1; subst hw2)
    | (go_at_call 51; refine (krsigned (by decide) ha _).mono ?_; rintro e wz ⟨rfl, hw1⟩; have hw2 := hw1.symm; clear hw1; subst hw2))
  go_ret
  exact ⟨rfl, BL.out⟩

theorem katw4 {a b : Nat} (ha : a < 2 ^ 64) (hb : b < 2 ^ 64) (na : nanW a = false) (nb : nanW b = false) (h1 : ltB 0 b = false) (h2 : ltB b 0 = true) (sa : isNeg a = true) (w : World) : Kb 7 #[wd a, wd b] w (wd (dS (atanW (dD a b)) 4614256656552045848)) := by
  have BL := Lib.hid (Below.refl w.heap.size w)
  go_enter Tryz.func7, Tryz.ntmps7
  go_wp2_with (first
    | (go_at_call 13; refine (kD _ _ _).mono ?_; rintro e wk ⟨rfl, nk, hw⟩; have BL := Lib.hid (show Below w.heap.size w wk by rw [hw]; first | exact BL.out.trans (drew_below _ _ _) | exact (BL.out.trans (drew_below _ _ _)).trans (drew_below _ _ _) | exact (BL.out.alloc BL.out.size _).trans (drew_below _ _ _)); clear hw)
    | (go_at_call 44; refine (kS _ _ _).mono ?_; rintro e wk ⟨rfl, nk, hw⟩; have BL := Lib.hid (show Below w.heap.size w wk by rw [hw]; first | exact BL.out.trans (drew_below _ _ _) | exact (BL.out.trans (drew_below _ _ _)).trans (drew_below _ _ _) | exact (BL.out.alloc BL.out.size _).trans (drew_below _ _ _)); clear hw)
    | (go_at_call 12; refine (kA _ _ _).mono ?_; rintro e wk ⟨rfl, nk, hw⟩; have BL := Lib.hid (show Below w.heap.size w wk by rw [hw]; first | exact BL.out.trans (drew_below _ _ _) | exact (BL.out.trans (drew_below _ _ _)).trans (drew_below _ _ _) | exact (BL.out.alloc BL.out.size _).trans (drew_below _ _ _)); clear hw)
    | (go_at_call 16; refine (kisnan _ _).mono ?_; rintro e wz ⟨rfl, hw1⟩; have hw2 := hw1.symm; clear hw1; subst hw2)
    | (go_at_call 23; refine (knless _ _ _).mono ?_; rintro e wz ⟨rfl, hw1⟩; have hw2 := hw1.symm; clear hw1; subst hw2)
    | (go_at_call 43; refine (katan (dD_lt _ _) _).mono ?_; rintro e wk ⟨rfl, bk⟩; have BL := Lib.hid (BL.out.trans (bk.mono BL.out.size)); clear bk)
    | (go_at_call 24; refine (knegative (by assumption) _).mono ?_; rintro e wz ⟨rfl, hw1⟩; have hw2 := hw1.symm; clear hw1; subst hw2)
    | (go_at_call 15; refine (kzero ha _).mono ?_; rintro e wz ⟨rfl, hw1⟩; have hw2 := hw1.symm; clear hw1; subst hw2)
    | (go_at_call 45; refine (ksigned (by decide) ha _).mono ?_; rintro e wz ⟨rfl, hw1⟩; have hw2 := hw1.symm; clear hw1; subst hw2))
  go_ret
  exact ⟨rfl, BL.out⟩

theorem kratw4 {a b : Nat} (ha : a < 2 ^ 64) (hb : b < 2 ^ 64) (na : nanW a = false) (nb : nanW b = false) (h1 : ltB 0 b = false) (h2 : ltB b 0 = true) (sa : isNeg a = true) (w : World) : Kb 8 #[wd a, wd b] w (wd (dS (atanW (dD a b)) 4614256656552045848)) := by
  have BL := Lib.hid (Below.refl w.heap.size w)
  go_enter Tryz.func8, Tryz.ntmps8
  go_wp2_with (first
    | (go_at_call 30; refine (krNaN (by assumption) _).mono ?_; rintro e wz ⟨rfl, hw1⟩; have hw2 := hw1.symm; clear hw1; subst hw2)
    | (go_at_call 33; refine (krabove (by first | assumption | decide) (by first | assumption | decide) _).mono ?_; rintro e wk ⟨rfl, bk⟩; have BL := Lib.hid (BL.out.trans (bk.mono BL.out.size)); clear bk)
    | (go_at_call 47; refine (krbelow (by first | assumption | decide) (by first | assumption | decide) _).mono ?_; rintro e wk ⟨rfl, bk⟩; have BL := Lib.hid (BL.out.trans (bk.mono BL.out.size)); clear bk)
    | (go_at_call 40; refine (rD ha hb _).mono ?_; rintro e wk ⟨rfl, bk⟩; have BL := Lib.hid (BL.out.trans (bk.mono BL.out.size)); clear bk)
    | (go_at_call 46; refine (kratan (dD_lt _ _) _).mono ?_; rintro e wk ⟨rfl, bk⟩; have BL := Lib.hid (BL.out.trans (bk.mono BL.out.size)); clear bk)
    | (go_at_call 48; refine (rA (atanW_lt _) (by decide) _).mono ?_; rintro e wk ⟨rfl, bk⟩; have BL := Lib.hid (BL.out.trans (bk.mono BL.out.size)); clear bk)
    | (go_at_call 49; refine (rS (atanW_lt _) (by decide) _).mono ?_; rintro e wk ⟨rfl, bk⟩; have BL := Lib.hid (BL.out.trans (bk.mono BL.out.size)); clear bk)
    | (go_at_call 37; refine (krNeg0 (by assumption) _).mono ?_; rintro e wz ⟨rfl, hw1⟩; have hw2 := hw1.symm; clear hw1; subst hw2)
    | (go_at_call 50; refine (krneg (by decide) _).mono ?_; rintro e wz ⟨rfl, hw1⟩; have hw2 := hw1.symm; clear hw1; subst hw2)
    | (go_at_call 51; refine (krsigned (by decide) ha _).mono ?_; rintro e wz ⟨rfl, hw1⟩; have hw2 := hw1.symm; clear hw1; subst hw2))
  go_ret
  exact ⟨rfl, BL.out⟩

theorem katw5 {a b : Nat} (ha : a < 2 ^ 64) (hb : b < 2 ^ 64) (na : nanW a = false) (nb : nanW b = false) (h1 : ltB 0 b = false) (h2 : ltB b 0 = true) (sa : isNeg a = false) (w : World) : Kb 7 #[wd a, wd b] w (wd (dA (atanW (dD a b)) 4614256656552045848)) := by
  have BL := Lib.hid (Below.refl w.heap.size w)
  go_enter Tryz.func7, Tryz.ntmps7
  go_wp2_with (first
    | (go_at_call 13; refine (kD _ _ _).mono ?_; rintro e wk ⟨rfl, nk, hw⟩; have BL := Lib.hid (show Below w.heap.size w wk by rw [hw]; first | exact BL.out.trans (drew_below _ _ _) | exact (BL.out.trans (drew_below _ _ _)).trans (drew_below _ _ _) | exact (BL.out.alloc BL.out.size _).trans (drew_below _ _ _)); clear hw)
    | (go_at_call 44; refine (kS _ _ _).mono ?_; rintro e wk ⟨rfl, nk, hw⟩; have BL := Lib.hid (show Below w.heap.size w wk by rw [hw]; first | exact BL.out.trans (drew_below _ _ _) | exact (BL.out.trans (drew_below _ _ _)).trans (drew_below _ _ _) | exact (BL.out.alloc BL.out.size _).trans (drew_below _ _ _)); clear hw)
    | (go_at_call 12; refine (kA _ _ _).mono ?_; rintro e wk ⟨rfl, nk, hw⟩; have BL := Lib.hid (show Below w.heap.size w wk by rw [hw]; first | exact BL.out.trans (drew_below _ _ _) | exact (BL.out.trans (drew_below _ _ _)).trans (drew_below _ _ _) | exact (BL.out.alloc BL.out.size _).trans (drew_below _ _ _)); clear hw)
    | (go_at_call 16; refine (kisnan _ _).mono ?_; rintro e wz ⟨rfl, hw1⟩; have hw2 := hw1.symm; clear hw1; subst hw2)
    | (go_at_call 23; refine (knless _ _ _).mono ?_; rintro e wz ⟨rfl, hw1⟩; have hw2 := hw1.symm; clear hw1; subst hw2)
    | (go_at_call 43; refine (katan (dD_lt _ _) _).mono ?_; rintro e wk ⟨rfl, bk⟩; have BL := Lib.hid (BL.out.trans (bk.mono BL.out.size)); clear bk)
    | (go_at_call 24; refine (knegative (by assumption) _).mono ?_; rintro e wz ⟨rfl, hw1⟩; have hw2 := hw1.symm; clear hw1; subst hw2)
    | (go_at_call 15; refine (kzero ha _).mono ?_; rintro e wz ⟨rfl, hw1⟩; have hw2 := hw1.symm; clear hw1; subst hw2)
    | (go_at_call 45; refine (ksigned (by decide) ha _).mono ?_; rintro e wz ⟨rfl, hw1⟩; have hw2 := hw1.symm; clear hw1; subst hw2))
  go_ret
  exact ⟨rfl, BL.out⟩

theorem kratw5 {a b : Nat} (ha : a < 2 ^ 64) (hb : b < 2 ^ 64) (na : nanW a = false) (nb : nanW b = false) (h1 : ltB 0 b = false) (h2 : ltB b 0 = true) (sa : isNeg a = false) (w : World) : Kb 8 #[wd a, wd b] w (wd (dA (atanW (dD a b)) 4614256656552045848)) := by
  have BL := Lib.hid (Below.refl w.heap.size w)
  go_enter Tryz.func8, Tryz.ntmps8
  go_wp2_with (first
    | (go_at_call 30; refine (krNaN (by assumption) _).mono ?_; rintro e wz ⟨rfl, hw1⟩; have hw2 := hw1.symm; clear hw1; subst hw2)
    | (go_at_call 33; refine (krabove (by first | assumption | decide) (by first | assumption | decide) _).mono ?_; rintro e wk ⟨rfl, bk⟩; have BL := Lib.hid (BL.out.trans (bk.mono BL.out.size)); clear bk)
    | (go_at_call 47; refine (krbelow (by first | assumption | decide) (by first | assumption | decide) _).mono ?_; rintro e wk ⟨rfl, bk⟩; have BL := Lib.hid (BL.out.trans (bk.mono BL.out.size)); clear bk)
    | (go_at_call 40; refine (rD ha hb _).mono ?_; rintro e wk ⟨rfl, bk⟩; have BL := Lib.hid (BL.out.trans (bk.mono BL.out.size)); clear bk)
    | (go_at_call 46; refine (kratan (dD_lt _ _) _).mono ?_; rintro e wk ⟨rfl, bk⟩; have BL := Lib.hid (BL.out.trans (bk.mono BL.out.size)); clear bk)
    | (go_at_call 48; refine (rA (atanW_lt _) (by decide) _).mono ?_; rintro e wk ⟨rfl, bk⟩; have BL := Lib.hid (BL.out.trans (bk.mono BL.out.size)); clear bk)
    | (go_at_call 49; refine (rS (atanW_lt _) (by decide) _).mono ?_; rintro e wk ⟨rfl, bk⟩; have BL := Lib.hid (BL.out.trans (bk.mono BL.out.size)); clear bk)
    | (go_at_call 37; refine (krNeg0 (by assumption) _).mono ?_; rintro e wz ⟨rfl, hw1⟩; have hw2 := hw1.symm; clear hw1; subst hw2)
    | (go_at_call 50; refine (krneg (by decide) _).mono ?_; rintro e wz ⟨rfl, hw1⟩; have hw2 := hw1.symm; clear hw1; subst hw2)
    | (go_at_call 51; refine (krsigned (by decide) ha _).mono ?_; rintro e wz ⟨rfl, hw1⟩; have hw2 := hw1.symm; clear hw1; subst hw2))
  go_ret
  exact ⟨rfl, BL.out⟩

theorem katw6 {a b : Nat} (ha : a < 2 ^ 64) (hb : b < 2 ^ 64) (na : nanW a = false) (nb : nanW b = false) (h1 : ltB 0 b = false) (h2 : ltB b 0 = false) (za : zeroW a = true) (sb : isNeg b = true) (w : World) : Kb 7 #[wd a, wd b] w (wd (sgnd 4614256656552045848 a)) := by
  have BL := Lib.hid (Below.refl w.heap.size w)
  go_enter Tryz.func7, Tryz.ntmps7
  go_wp2_with (first
    | (go_at_call 13; refine (kD _ _ _).mono ?_; rintro e wk ⟨rfl, nk, hw⟩; have BL := Lib.hid (show Below w.heap.size w wk by rw [hw]; first | exact BL.out.trans (drew_below _ _ _) | exact (BL.out.trans (drew_below _ _ _)).trans (drew_below _ _ _) | exact (BL.out.alloc BL.out.size _).trans (drew_below _ _ _)); clear hw)
    | (go_at_call 44; refine (kS _ _ _).mono ?_; rintro e wk ⟨rfl, nk, hw⟩; have BL := Lib.hid (show Below w.heap.size w wk by rw [hw]; first | exact BL.out.trans (drew_below _ _ _) | exact (BL.out.trans (drew_below _ _ _)).trans (drew_below _ _ _) | exact (BL.out.alloc BL.out.size _).trans (drew_below _ _ _)); clear hw)
    | (go_at_call 12; refine (kA _ _ _).mono ?_; rintro e wk ⟨rfl, nk, hw⟩; have BL := Lib.hid (show Below w.heap.size w wk by rw [hw]; first | exact BL.out.trans (drew_below _ _ _) | exact (BL.out.trans (drew_below _ _ _)).trans (drew_below _ _ _) | exact (BL.out.alloc BL.out.size _).trans (drew_below _ _ _)); clear hw)
    | (go_at_call 16; refine (kisnan _ _).mono ?_; rintro e wz ⟨rfl, hw1⟩; have hw2 := hw1.symm; clear hw1; subst hw2)
    | (go_at_call 23; refine (knless _ _ _).mono ?_; rintro e wz ⟨rfl, hw1⟩; have hw2 := hw1.symm; clear hw1; subst hw2)
    | (go_at_call 43; refine (katan (dD_lt _ _) _).mono ?_; rintro e wk ⟨rfl, bk⟩; have BL := Lib.hid (BL.out.trans (bk.mono BL.out.size)); clear bk)
    | (go_at_call 24; refine (knegative (by assumption) _).mono ?_; rintro e wz ⟨rfl, hw1⟩; have hw2 := hw1.symm; clear hw1; subst hw2)
    | (go_at_call 15; refine (kzero ha _).mono ?_; rintro e wz ⟨rfl, hw1⟩; have hw2 := hw1.symm; clear hw1; subst hw2)
    | (go_at_call 45; refine (ksigned (by decide) ha _).mono ?_; rintro e wz ⟨rfl, hw1⟩; have hw2 := hw1.symm; clear hw1; subst hw2))
  go_ret
  exact ⟨rfl, BL.out⟩

theorem kratw6 {a b : Nat} (ha : a < 2 ^ 64) (hb : b < 2 ^ 64) (na : nanW a = false) (nb : nanW b = false) (h1 : ltB 0 b = false) (h2 : ltB b 0 = false) (za : zeroW a = true) (sb : isNeg b = true) (h3 : ltB 0 a = false) (h4 : ltB a 0 = false) (w : World) : Kb 8 #[wd a, wd b] w (wd (sgnd 4614256656552045848 a)) := by
  have BL := Lib.hid (Below.refl w.heap.size w)
  go_enter Tryz.func8, Tryz.ntmps8
  go_wp2_with (first
    | (go_at_call 30; refine (krNaN (by assumption) _).mono ?_; rintro e wz ⟨rfl, hw1⟩; have hw2 := hw1.symm; clear hw1; subst hw2)
    | (go_at_call 33; refine (krabove (by first | assumption | decide) (by first | assumption | decide) _).mono ?_; rintro e wk ⟨rfl, bk⟩; have BL := Lib.hid (BL.out.trans (bk.mono BL.out.size)); clear bk)
    | (go_at_call 47; refine (krbelow (by first | assumption | decide) (by first | assumption | decide) _).mono ?_; rintro e wk ⟨rfl, bk⟩; have BL := Lib.hid (BL.out.trans (bk.mono BL.out.size)); clear bk)
    | (go_at_call 40; refine (rD ha hb _).mono ?_; rintro e wk ⟨rfl, bk⟩; have BL := Lib.hid (BL.out.trans (bk.mono BL.out.size)); clear bk)
    | (go_at_call 46; refine (kratan (dD_lt _ _) _).mono ?_; rintro e wk ⟨rfl, bk⟩; have BL := Lib.hid (BL.out.trans (bk.mono BL.out.size)); clear bk)
    | (go_at_call 48; refine (rA (atanW_lt _) (by decide) _).mono ?_; rintro e wk ⟨rfl, bk⟩; have BL := Lib.hid (BL.out.trans (bk.mono BL.out.size)); clear bk)
    | (go_at_call 49; refine (rS (atanW_lt _) (by decide) _).mono ?_; rintro e wk ⟨rfl, bk⟩; have BL := Lib.hid (BL.out.trans (bk.mono BL.out.size)); clear bk)
    | (go_at_call 37; refine (krNeg0 (by assumption) _).mono ?_; rintro e wz ⟨rfl, hw1⟩; have hw2 := hw1.symm; clear hw1; subst hw2)
    | (go_at_call 50; refine (krneg (by decide) _).mono ?_; rintro e wz ⟨rfl, hw1⟩; have hw2 := hw1.symm; clear hw1; subst hw2)
    | (go_at_call 51; refine (krsigned (by decide) ha _).mono ?_; rintro e wz ⟨rfl, hw1⟩; have hw2 := hw1.symm; clear hw1; subst hw2))
  go_ret
  exact ⟨rfl, BL.out⟩

theorem katw7 {a b : Nat} (ha : a < 2 ^ 64) (hb : b < 2 ^ 64) (na : nanW a = false) (nb : nanW b = false) (h1 : ltB 0 b = false) (h2 : ltB b 0 = false) (za : zeroW a = true) (sb : isNeg b = false) (w : World) : Kb 7 #[wd a, wd b] w (wd (a)) := by
  have BL := Lib.hid (Below.refl w.heap.size w)
  go_enter Tryz.func7, Tryz.ntmps7
  go_wp2_with (first
    | (go_at_call 13; refine (kD _ _ _).mono ?_; rintro e wk ⟨rfl, nk, hw⟩; have BL := Lib.hid (show Below w.heap.size w wk by rw [hw]; first | exact BL.out.trans (drew_below _ _ _) | exact (BL.out.trans (drew_below _ _ _)).trans (drew_below _ _ _) | exact (BL.out.alloc BL.out.size _).trans (drew_below _ _ _)); clear hw)
    | (go_at_call 44; refine (kS _ _ _).mono ?_; rintro e wk ⟨rfl, nk, hw⟩; have BL := Lib.hid (show Below w.heap.size w wk by rw [hw]; first | exact BL.out.trans (drew_below _ _ _) | exact (BL.out.trans (drew_below _ _ _)).trans (drew_below _ _ _) | exact (BL.out.alloc BL.out.size _).trans (drew_below _ _ _)); clear hw)
    | (go_at_call 12; refine (kA _ _ _).mono ?_; rintro e wk ⟨rfl, nk, hw⟩; have BL := Lib.hid (show Below w.heap.size w wk by rw [hw]; first | exact BL.out.trans (drew_below _ _ _) | exact (BL.out.trans (drew_below _ _ _)).trans (drew_below _ _ _) | exact (BL.out.alloc BL.out.size _).trans (drew_below _ _ _)); clear hw)
    | (go_at_call 16; refine (kisnan _ _).mono ?_; rintro e wz ⟨rfl, hw1⟩; have hw2 := hw1.symm; clear hw1; subst hw2)
    | (go_at_call 23; refine (knless _ _ _).mono ?_; rintro e wz ⟨rfl, hw1⟩; have hw2 := hw1.symm; clear hw1; subst hw2)
    | (go_at_call 43; refine (katan (dD_lt _ _) _).mono ?_; rintro e wk ⟨rfl, bk⟩; have BL := Lib.hid (BL.out.trans (bk.mono BL.out.size)); clear bk)
    | (go_at_call 24; refine (knegative (by assumption) _).mono ?_; rintro e wz ⟨rfl, hw1⟩; have hw2 := hw1.symm; clear hw1; subst hw2)
    | (go_at_call 15; refine (kzero ha _).mono ?_; rintro e wz ⟨rfl, hw1⟩; have hw2 := hw1.symm; clear hw1; subst hw2)
    | (go_at_call 45; refine (ksigned (by decide) ha _).mono ?_; rintro e wz ⟨rfl, hw1⟩; have hw2 := hw1.symm; clear hw1; subst hw2))
  go_ret
  exact ⟨rfl, BL.out⟩

theorem kratw7 {a b : Nat} (ha : a < 2 ^ 64) (hb : b < 2 ^ 64) (na : nanW a = false) (nb : nanW b = false) (h1 : ltB 0 b = false) (h2 : ltB b 0 = false) (za : zeroW a = true) (sb : isNeg b = false) (h3 : ltB 0 a = false) (h4 : ltB a 0 = false) (w : World) : Kb 8 #[wd a, wd b] w (wd (a)) := by
  have BL := Lib.hid (Below.refl w.heap.size w)
  go_enter Tryz.func8, Tryz.ntmps8
  go_wp2_with (first
    | (go_at_call 30; refine (krNaN (by assumption) _).mono ?_; rintro e wz ⟨rfl, hw1⟩; have hw2 := hw1.symm; clear hw1; subst hw2)
    | (go_at_call 33; refine (krabove (by first | assumption | decide) (by first | assumption | decide) _).mono ?_; rintro e wk ⟨rfl, bk⟩; have BL := Lib.hid (BL.out.trans (bk.mono BL.out.size)); clear bk)
    | (go_at_call 47; refine (krbelow (by first | assumption | decide) (by first | assumption | decide) _).mono ?_; rintro e wk ⟨rfl, bk⟩; have BL := Lib.hid (BL.out.trans (bk.mono BL.out.size)); clear bk)
    | (go_at_call 40; refine (rD ha hb _).mono ?_; rintro e wk ⟨rfl, bk⟩; have BL := Lib.hid (BL.out.trans (bk.mono BL.out.size)); clear bk)
    | (go_at_call 46; refine (kratan (dD_lt _ _) _).mono ?_; rintro e wk ⟨rfl, bk⟩; have BL := Lib.hid (BL.out.trans (bk.mono BL.out.size)); clear bk)
    | (go_at_call 48; refine (rA (atanW_lt _) (by decide) _).mono ?_; rintro e wk ⟨rfl, bk⟩; have BL := Lib.hid (BL.out.trans (bk.mono BL.out.size)); clear bk)
    | (go_at_call 49; refine (rS (atanW_lt _) (by decide) _).mono ?_; rintro e wk ⟨rfl, bk⟩; have BL := Lib.hid (BL.out.trans (bk.mono BL.out.size)); clear bk)
    | (go_at_call 37; refine (krNeg0 (by assumption) _).mono ?_; rintro e wz ⟨rfl, hw1⟩; have hw2 := hw1.symm; clear hw1; subst hw2)
    | (go_at_call 50; refine (krneg (by decide) _).mono ?_; rintro e wz ⟨rfl, hw1⟩; have hw2 := hw1.symm; clear hw1; subst hw2)
    | (go_at_call 51; refine (krsigned (by decide) ha _).mono ?_; rintro e wz ⟨rfl, hw1⟩; have hw2 := hw1.symm; clear hw1; subst hw2))
  go_ret
  exact ⟨rfl, BL.out⟩

theorem katw8 {a b : Nat} (ha : a < 2 ^ 64) (hb : b < 2 ^ 64) (na : nanW a = false) (nb : nanW b = false) (h1 : ltB 0 b = false) (h2 : ltB b 0 = false) (za : zeroW a = false) (w : World) : Kb 7 #[wd a, wd b] w (wd (sgnd 4609753056924675352 a)) := by
  have BL := Lib.hid (Below.refl w.heap.size w)
  go_enter Tryz.func7, Tryz.ntmps7
  go_wp2_with (first
    | (go_at_call 13; refine (kD _ _ _).mono ?_; rintro e wk ⟨rfl, nk, hw⟩; have BL := Lib.hid (show Below w.heap.size w wk by rw [hw]; first | exact BL.out.trans (drew_below _ _ _) | exact (BL.out.trans (drew_below _ _ _)).trans (drew_below _ _ _) | exact (BL.out.alloc BL.out.size _).trans (drew_below _ _ _)); clear hw)
    | (go_at_call 44; refine (kS _ _ _).mono ?_; rintro e wk ⟨rfl, nk, hw⟩; have BL := Lib.hid (show Below w.heap.size w wk by rw [hw]; first | exact BL.out.trans (drew_below _ _ _) | exact (BL.out.trans (drew_below _ _ _)).trans (drew_below _ _ _) | exact (BL.out.alloc BL.out.size _).trans (drew_below _ _ _)); clear hw)
    | (go_at_call 12; refine (kA _ _ _).mono ?_; rintro e wk ⟨rfl, nk, hw⟩; have BL := Lib.hid (show Below w.heap.size w wk by rw [hw]; first | exact BL.out.trans (drew_below _ _ _) | exact (BL.out.trans (drew_below _ _ _)).trans (drew_below _ _ _) | exact (BL.out.alloc BL.out.size _).trans (drew_below _ _ _)); clear hw)
    | (go_at_call 16; refine (kisnan _ _).mono ?_; rintro e wz ⟨rfl, hw1⟩; have hw2 := hw1.symm; clear hw1; subst hw2)
    | (go_at_call 23; refine (knless _ _ _).mono ?_; rintro e wz ⟨rfl, hw1⟩; have hw2 := hw1.symm; clear hw1; subst hw2)
    | (go_at_call 43; refine (katan (dD_lt _ _) _).mono ?_; rintro e wk ⟨rfl, bk⟩; have BL := Lib.hid (BL.out.trans (bk.mono BL.out.size)); clear bk)
    | (go_at_call 24; refine (knegative (by assumption) _).mono ?_; rintro e wz ⟨rfl, hw1⟩; have hw2 := hw1.symm; clear hw1; subst hw2)
    | (go_at_call 15; refine (kzero ha _).mono ?_; rintro e wz ⟨rfl, hw1⟩; have hw2 := hw1.symm; clear hw1; subst hw2)
    | (go_at_call 45; refine (ksigned (by decide) ha _).mono ?_; rintro e wz ⟨rfl, hw1⟩; have hw2 := hw1.symm; clear hw1; subst hw2))
  go_ret
  exact ⟨rfl, BL.out⟩

theorem kratw8 {a b : Nat} (ha : a < 2 ^ 64) (hb : b < 2 ^ 64) (na : nanW a = false) (nb : nanW b = false) (h1 : ltB 0 b = false) (h2 : ltB b 0 = false) (za : zeroW a = false) (h3 : ltB 0 a = true) (w : World) : Kb 8 #[wd a, wd b] w (wd (4609753056924675352)) := by
  have BL := Lib.hid (Below.refl w.heap.size w)
  go_enter Tryz.func8, Tryz.ntmps8
  go_wp2_with (first
    | (go_at_call 30; refine (krNaN (by assumption) _).mono ?_; rintro e wz ⟨rfl, hw1⟩; have hw2 := hw1.symm; clear hw1; subst hw2)
    | (go_at_call 33; refine (krabove (by first | assumption | decide) (by first | assumption | decide) _).mono ?_; rintro e wk ⟨rfl, bk⟩; have BL := Lib.hid (BL.out.trans (bk.mono BL.out.size)); clear bk)
    | (go_at_call 47; refine (krbelow (by first | assumption | decide) (by first | assumption | decide) _).mono ?_; rintro e wk ⟨rfl, bk⟩; have BL := Lib.hid (BL.out.trans (bk.mono BL.out.size)); clear bk)
    | (go_at_call 40; refine (rD ha hb _).mono ?_; rintro e wk ⟨rfl, bk⟩; have BL := Lib.hid (BL.out.trans (bk.mono BL.out.size)); clear bk)
    | (go_at_call 46; refine (kratan (dD_lt _ _) _).mono ?_; rintro e wk ⟨rfl, bk⟩; have BL := Lib.hid (BL.out.trans (bk.mono BL.out.size)); clear bk)
    | (go_at_call 48; refine (rA (atanW_lt _) (by decide) _).mono ?_; rintro e wk ⟨rfl, bk⟩; have BL := Lib.hid (BL.out.trans (bk.mono BL.out.size)); clear bk)
    | (go_at_call 49; refine (rS (atanW_lt _) (by decide) _).mono ?_; rintro e wk ⟨rfl, bk⟩; have BL := Lib.hid (BL.out.trans (bk.mono BL.out.size)); clear bk)
    | (go_at_call 37; refine (krNeg0 (by assumption) _).mono ?_; rintro e wz ⟨rfl, hw1⟩; have hw2 := hw1.symm; clear hw1; subst hw2)
    | (go_at_call 50; refine (krneg (by decide) _).mono ?_; rintro e wz ⟨rfl, hw1⟩; have hw2 := hw1.symm; clear hw1; subst hw2)
    | (go_at_call 51; refine (krsigned (by decide) ha _).mono ?_; rintro e wz ⟨rfl, hw1⟩; have hw2 := hw1.symm; clear hw1; subst hw2))
  go_ret
  exact ⟨rfl, BL.out⟩

theorem kratw9 {a b : Nat} (ha : a < 2 ^ 64) (hb : b < 2 ^ 64) (na : nanW a = false) (nb : nanW b = false) (h1 : ltB 0 b = false) (h2 : ltB b 0 = false) (za : zeroW a = false) (h3 : ltB 0 a = false) (h4 : ltB a 0 = true) (w : World) : Kb 8 #[wd a, wd b] w (wd (negV 4609753056924675352)) := by
  have BL := Lib.hid (Below.refl w.heap.size w)
  go_enter Tryz.func8, Tryz.ntmps8
  go_wp2_with (first
    | (go_at_call 30; refine (krNaN (by assumption) _).mono ?_; rintro e wz ⟨rfl, hw1⟩; have hw2 := hw1.symm; clear hw1; subst hw2)
    | (go_at_call 33; refine (krabove (by first | assumption | decide) (by first | assumption | decide) _).mono ?_; rintro e wk ⟨rfl, bk⟩; have BL := Lib.hid (BL.out.trans (bk.mono BL.out.size)); clear bk)
    | (go_at_call 47; refine (krbelow (by first | assumption | decide) (by first | assumption | decide) _).mono ?_; rintro e wk ⟨rfl, bk⟩; have BL := Lib.hid (BL.out.trans (bk.mono BL.out.size)); clear bk)
    | (go_at_call 40; refine (rD ha hb _).mono ?_; rintro e wk ⟨rfl, bk⟩; have BL := Lib.hid (BL.out.trans (bk.mono BL.out.size)); clear bk)
    | (go_at_call 46; refine (kratan (dD_lt _ _) _).mono ?_; rintro e wk ⟨rfl, bk⟩; have BL := Lib.hid (BL.out.trans (bk.mono BL.out.size)); clear bk)
    | (go_at_call 48; refine (rA (atanW_lt _) (by decide) _).mono ?_; rintro e wk ⟨rfl, bk⟩; have BL := Lib.hid (BL.out.trans (bk.mono BL.out.size)); clear bk)
    | (go_at_call 49; refine (rS (atanW_lt _) (by decide) _).mono ?_; rintro e wk ⟨rfl, bk⟩; have BL := Lib.hid (BL.out.trans (bk.mono BL.out.size)); clear bk)
    | (go_at_call 37; refine (krNeg0 (by assumption) _).mono ?_; rintro e wz ⟨rfl, hw1⟩; have hw2 := hw1.symm; clear hw1; subst hw2)
    | (go_at_call 50; refine (krneg (by decide) _).mono ?_; rintro e wz ⟨rfl, hw1⟩; have hw2 := hw1.symm; clear hw1; subst hw2)
    | (go_at_call 51; refine (krsigned (by decide) ha _).mono ?_; rintro e wz ⟨rfl, hw1⟩; have hw2 := hw1.symm; clear hw1; subst hw2))
  go_ret
  exact ⟨rfl, BL.out⟩

theorem katw {a b : Nat} (ha : a < 2 ^ 64) (hb : b < 2 ^ 64) (w : World) : Kb 7 #[wd a, wd b] w (wd (atwW a b)) := by
  unfold atwW
  cases na : nanW a
  · cases nb : nanW b
    · rw [if_neg (by decide)]
      have h3 := zero_lt na
      have h4 := lt_zero na
      cases h1 : ltB 0 b
      · rw [if_neg (by decide)]
        cases h2 : ltB b 0
        · rw [if_neg (by decide)]
          cases za : zeroW a
          · rw [if_neg (by decide)]
            exact katw8 ha hb na nb h1 h2 za w
          · rw [if_pos rfl]
            rw [za] at h3 h4
            cases sb : isNeg b
            · rw [if_neg (by decide)]; exact katw7 ha hb na nb h1 h2 za sb w
            · rw [if_pos rfl]; exact katw6 ha hb na nb h1 h2 za sb w
        · rw [if_pos rfl]
          cases sa : isNeg a
          · rw [if_neg (by decide)]; exact katw5 ha hb na nb h1 h2 sa w
          · rw [if_pos rfl]; exact katw4 ha hb na nb h1 h2 sa w
      · rw [if_pos rfl]; exact katw3 ha hb na nb h1 w
    · rw [if_pos (by decide)]; exact katw2 ha hb na nb w
  · rw [if_pos (by simp)]; exact katw1 ha hb na w

theorem kratw {a b : Nat} (ha : a < 2 ^ 64) (hb : b < 2 ^ 64) (w : World) : Kb 8 #[wd a, wd b] w (wd (atwW a b)) := by
  unfold atwW
  cases na : nanW a
  · cases nb : nanW b
    · rw [if_neg (by decide)]
      have h3 := zero_lt na
      have h4 := lt_zero na
      cases h1 : ltB 0 b
      · rw [if_neg (by decide)]
        cases h2 : ltB b 0
        · rw [if_neg (by decide)]
          cases za : zeroW a
          · rw [if_neg (by decide)]
            
            rw [za] at h3 h4
            cases sa : isNeg a
            · rw [sa] at h3 h4
              have e : sgnd 4609753056924675352 a = 4609753056924675352 := by unfold sgnd; rw [sa]; rfl
              rw [e]; exact kratw8 ha hb na nb h1 h2 za h3 w
            · rw [sa] at h3 h4
              have e : sgnd 4609753056924675352 a = negV 4609753056924675352 := by unfold sgnd; rw [sa]; rfl
              rw [e]; exact kratw9 ha hb na nb h1 h2 za h3 h4 w
          · rw [if_pos rfl]
            rw [za] at h3 h4
            cases sb : isNeg b
            · rw [if_neg (by decide)]; exact kratw7 ha hb na nb h1 h2 za sb h3 h4 w
            · rw [if_pos rfl]; exact kratw6 ha hb na nb h1 h2 za sb h3 h4 w
        · rw [if_pos rfl]
          cases sa : isNeg a
          · rw [if_neg (by decide)]; exact kratw5 ha hb na nb h1 h2 sa w
          · rw [if_pos rfl]; exact kratw4 ha hb na nb h1 h2 sa w
      · rw [if_pos rfl]; exact kratw3 ha hb na nb h1 w
    · rw [if_pos (by decide)]; exact kratw2 ha hb na nb w
  · rw [if_pos (by simp)]; exact kratw1 ha hb na w

end Go.Proofs.YtoodbdjmbicaeaaGreatDoor
