/- Whole, the infinities; the document's Int. No condition. -/
import Derived.Test.YtoodbdjmbicaeaaGreatDoorKno
import Derived.Test.YtoodbdjmbicaeaaGreatDoorP2
import Derived.Test.YtoodbdjmbicaeaaGreatDoorRf1
namespace Go.Proofs.YtoodbdjmbicaeaaGreatDoor
open Go.RowKit
set_option maxRecDepth 8000
set_option linter.unusedVariables false
set_option linter.unusedSimpArgs false

theorem cmp_lt {x y : Int} : (some (compare x y) == some Ordering.lt) = decide (x < y) := by
  show (some (compareOfLessAndEq x y) == some Ordering.lt) = _
  unfold compareOfLessAndEq
  by_cases h : x < y
  · rw [if_pos h, decide_eq_true h]; rfl
  · rw [if_neg h, decide_eq_false h]; split <;> rfl
theorem cmp_ge {x y : Int} : (some (compare x y) == some Ordering.gt || some (compare x y) == some Ordering.eq) = decide (y ≤ x) := by
  show (some (compareOfLessAndEq x y) == some Ordering.gt || some (compareOfLessAndEq x y) == some Ordering.eq) = _
  unfold compareOfLessAndEq
  by_cases h : x < y
  · rw [if_pos h, decide_eq_false (by omega)]; rfl
  · rw [if_neg h, decide_eq_true (by omega)]; split <;> rfl
theorem cmp_ne {x y : Int} (h : x ≠ y) : (some (compare x y) != some Ordering.eq) = true := by
  show (some (compareOfLessAndEq x y) != some Ordering.eq) = _
  unfold compareOfLessAndEq
  split
  · rfl
  · first | rfl | (rw [if_neg h]; rfl)
theorem scale_lt {x y : Int} : x * (U1 : Int) < y * (U1 : Int) ↔ x < y := Int.mul_lt_mul_right (by have := U1_pos; omega)
theorem scale_le {x y : Int} : x * (U1 : Int) ≤ y * (U1 : Int) ↔ x ≤ y := by
  rw [← Int.not_lt, scale_lt, Int.not_lt]
theorem c2_fin {a : Nat} (hf : rung a < infR) (hr : val (rung a) % U1 = 0) : (FloatKind.f64.format.order a 14114281232179134464 == some .lt) = decide (sv a < -9223372036854775808) := by
  show (Ieee.double.order a 14114281232179134464 == some .lt) = _
  rw [order_eq (by omega) (by decide), cmp_lt, bounds hr, ival_lo]
  simp only [scale_lt]
theorem c3_fin {a : Nat} (hf : rung a < infR) (hr : val (rung a) % U1 = 0) : (FloatKind.f64.format.order a 4890909195324358656 == some .gt || FloatKind.f64.format.order a 4890909195324358656 == some .eq) = decide (9223372036854775808 ≤ sv a) := by
  show (Ieee.double.order a 4890909195324358656 == some .gt || Ieee.double.order a 4890909195324358656 == some .eq) = _
  rw [order_eq (by omega) (by decide), cmp_ge, bounds hr, ival_hi]
  simp only [scale_le]
theorem c2_inf {a : Nat} (hi : rung a = infR) : (FloatKind.f64.format.order a 14114281232179134464 == some .lt) = isNeg a := by
  show (Ieee.double.order a 14114281232179134464 == some .lt) = _
  rw [order_eq (by omega) (by decide), cmp_lt]
  have h1 : val (rung 14114281232179134464) < val infR := val_lt (by decide)
  have h2 : ival 14114281232179134464 = -(val (rung 14114281232179134464) : Int) := by unfold ival; rw [show isNeg 14114281232179134464 = true by decide]; rfl
  rw [h2]
  rcases ival_abs a with ⟨e, f⟩ | ⟨e, f⟩ <;> rw [hi] at e <;> rw [e, f]
  · exact decide_eq_false (by omega)
  · exact decide_eq_true (by omega)
theorem c3_inf {a : Nat} (hi : rung a = infR) (hs : isNeg a = false) : (FloatKind.f64.format.order a 4890909195324358656 == some .gt || FloatKind.f64.format.order a 4890909195324358656 == some .eq) = true := by
  show (Ieee.double.order a 4890909195324358656 == some .gt || Ieee.double.order a 4890909195324358656 == some .eq) = _
  rw [order_eq (by omega) (by decide), cmp_ge]
  have h1 : val (rung 4890909195324358656) < val infR := val_lt (by decide)
  have h2 : ival 4890909195324358656 = (val (rung 4890909195324358656) : Int) := by unfold ival; rw [show isNeg 4890909195324358656 = false by decide]; rfl
  rw [h2]
  rcases ival_abs a with ⟨e, f⟩ | ⟨e, f⟩ <;> rw [hi] at e
  · rw [e]; exact decide_eq_true (by omega)
  · rw [f] at hs; cases hs

/-- Of what differs from its whole part. -/
theorem kwhole1 {a : Nat} (h : ∀ r, bitsW r = wayV .zero a → (FloatKind.f64.format.order a r != some .eq) = true) (w : World) : Kn 9 #[wd a] w (.tuple #[.int .i64 0, .bool false]) := by
  have H := Lib.hid h
  clear h
  go_enter Tryz.func9, Tryz.ntmps9
  go_wp2_with (first
    | (go_at_call 52; refine (kmtrunc _ _).mono ?_; rintro e w1 ⟨r, n, rfl, hr, rfl⟩; have hne := H.out r hr; clear hr)
    | (go_at_call 19; refine (kof _ _).mono ?_; rintro e w1 ⟨rfl, rfl⟩))
  go_ret2
  exact ⟨rfl, n, rfl⟩
/-- Of what is as its whole part, but too little or too great. -/
theorem kwhole2 {a : Nat} (h : wayV .zero a = a) (hn : nanW a = false) (b : Bool) (h2 : (FloatKind.f64.format.order a 14114281232179134464 == some .lt) = b) (h3 : b = false → (FloatKind.f64.format.order a 4890909195324358656 == some .gt || FloatKind.f64.format.order a 4890909195324358656 == some .eq) = true) (w : World) :
    Kn 9 #[wd a] w (.tuple #[.int .i64 0, .bool false]) := by
  have H := Lib.hid h
  have HN := Lib.hid hn
  have h1 : (FloatKind.f64.format.order a a != some .eq) = false := by rw [ord_self]; exact hn
  clear h hn
  cases b
  · have h4 := h3 rfl
    clear h3
    go_enter Tryz.func9, Tryz.ntmps9
    go_wp2_with (first
      | (go_at_call 52; refine (ktruncL H.out HN.out _).mono ?_; rintro e w1 ⟨rfl, n, rfl⟩)
      | (go_at_call 19; refine (kof _ _).mono ?_; rintro e w1 ⟨rfl, rfl⟩))
    go_ret2
    exact ⟨rfl, n, rfl⟩
  · clear h3
    go_enter Tryz.func9, Tryz.ntmps9
    go_wp2_with (first
      | (go_at_call 52; refine (ktruncL H.out HN.out _).mono ?_; rintro e w1 ⟨rfl, n, rfl⟩)
      | (go_at_call 19; refine (kof _ _).mono ?_; rintro e w1 ⟨rfl, rfl⟩))
    go_ret2
    exact ⟨rfl, n, rfl⟩
/-- Of what is a whole number of 64 bits. -/
theorem kwhole3 {a : Nat} (h : wayV .zero a = a) (hn : nanW a = false) (s : Int) (h2 : (FloatKind.f64.format.order a 14114281232179134464 == some .lt) = false) (h3 : (FloatKind.f64.format.order a 4890909195324358656 == some .gt || FloatKind.f64.format.order a 4890909195324358656 == some .eq) = false) (h4 : floatToIntVal .f64 a .i64 = some s) (w : World) :
    Kn 9 #[wd a] w (.tuple #[.int .i64 s, .bool true]) := by
  have H := Lib.hid h
  have HN := Lib.hid hn
  have h1 : (FloatKind.f64.format.order a a != some .eq) = false := by rw [ord_self]; exact hn
  have h5 := fun W => run_convert_float_int (P := Tryz.prog) W 34 2 .f64 .i64 a s (by kernel_rfl) (by kernel_rfl) h4
  clear h hn h4
  go_enter Tryz.func9, Tryz.ntmps9
  go_wp2_with (first
    | (go_at_call 52; refine (ktruncL H.out HN.out _).mono ?_; rintro e w1 ⟨rfl, n, rfl⟩)
    | (go_at_call 19; refine (kof _ _).mono ?_; rintro e w1 ⟨rfl, rfl⟩))
  go_ret2
  exact ⟨rfl, n, rfl⟩
theorem kwhole {a : Nat} (ha : a < 2 ^ 64) (w : World) : Kn 9 #[wd a] w (.tuple #[.int .i64 (wholeN a), .bool (wholeK a)]) := by
  cases hn : nanW a
  · by_cases hi : rung a = infR
    · have hk : wholeK a = false := by unfold wholeK; rw [decide_eq_false (by omega)]; rfl
      have hv : wholeN a = 0 := by unfold wholeN; rw [hk]; rfl
      rw [hk, hv]
      exact kwhole2 (wayV_inf ha hi) hn (isNeg a) (c2_inf hi) (fun h => c3_inf hi h) w
    · have hf : rung a < infR := by have := nan_false hn; omega
      obtain ⟨t1, t2⟩ := trunc_self ha hf
      by_cases hr : val (rung a) % U1 = 0
      · by_cases hlo : sv a < -9223372036854775808
        · have hk : wholeK a = false := by unfold wholeK; rw [decide_eq_false (show ¬ -9223372036854775808 ≤ sv a by omega)]; simp
          have hv : wholeN a = 0 := by unfold wholeN; rw [hk]; rfl
          rw [hk, hv]
          exact kwhole2 (t1 hr) hn true (by rw [c2_fin hf hr, decide_eq_true hlo]) (fun h => by cases h) w
        · by_cases hhi : 9223372036854775808 ≤ sv a
          · have hk : wholeK a = false := by unfold wholeK; rw [decide_eq_false (show ¬ sv a < 9223372036854775808 by omega)]; simp
            have hv : wholeN a = 0 := by unfold wholeN; rw [hk]; rfl
            rw [hk, hv]
            exact kwhole2 (t1 hr) hn false (by rw [c2_fin hf hr, decide_eq_false hlo]) (fun _ => by rw [c3_fin hf hr, decide_eq_true hhi]) w
          · have hk : wholeK a = true := by unfold wholeK; rw [decide_eq_true hf, decide_eq_true hr, decide_eq_true (by omega), decide_eq_true (by omega)]; rfl
            have hv : wholeN a = sv a := by unfold wholeN; rw [hk]; rfl
            rw [hk, hv]
            exact kwhole3 (t1 hr) hn (sv a) (by rw [c2_fin hf hr, decide_eq_false hlo]) (by rw [c3_fin hf hr, decide_eq_false hhi]) (toIntVal hf (by omega) (by omega)) w
      · have hk : wholeK a = false := by unfold wholeK; rw [decide_eq_false hr]; simp
        have hv : wholeN a = 0 := by unfold wholeN; rw [hk]; rfl
        rw [hk, hv]
        obtain ⟨q1, q2⟩ := t2 hr
        refine kwhole1 (fun r h => ?_) w
        rw [bitsW_inj h q1]
        show (Ieee.double.order a (wayV .zero a) != some .eq) = true
        rw [order_eq (by omega) (nan_false q1)]
        exact cmp_ne q2
  · have hk : wholeK a = false := by unfold wholeK; have := of_decide_eq_true hn; rw [decide_eq_false (by omega)]; rfl
    have hv : wholeN a = 0 := by unfold wholeN; rw [hk]; rfl
    rw [hk, hv]
    refine kwhole1 (fun r h => ?_) w
    show (Ieee.double.order a r != some .eq) = true
    rw [order_nan (.inl (of_decide_eq_true hn))]
    rfl

theorem kminfs (neg : Bool) (w : World) : Kp 60 #[.int .i64 (if neg then -1 else 1)] w (.float .f64 (Ieee.double.word neg infR)) := by
  have e1 : Ieee.double.word true infR = 18442240474082181120 := by decide
  have e2 : Ieee.double.word false infR = 9218868437227405312 := by decide
  cases neg
  · rw [e2]
    clear e1 e2
    have hcall : (callFunc 58 #[.int .u64 9218868437227405312]).run Tryz.prog w = .ok (.value (.float .f64 9218868437227405312)) w := callFromBits 9218868437227405312 w
    go_enter Tryz.func60, Tryz.ntmps60
    go_wp2_with fail
    go_ret
    exact ⟨rfl, rfl⟩
  · rw [e1]
    clear e1 e2
    have hcall : (callFunc 58 #[.int .u64 18442240474082181120]).run Tryz.prog w = .ok (.value (.float .f64 18442240474082181120)) w := callFromBits 18442240474082181120 w
    go_enter Tryz.func60, Tryz.ntmps60
    go_wp2_with fail
    go_ret
    exact ⟨rfl, rfl⟩

/-- The infinities. -/
theorem kinfT (w : World) : Kp 25 #[.bool true] w (.int .u64 18442240474082181120) := by
  have h1 : Ieee.double.word true infR = 18442240474082181120 := by decide
  have h2 : bitsW (Ieee.double.word true infR) = 18442240474082181120 := by decide
  have H1 := Lib.hid h2
  clear h1 h2
  go_enter Tryz.func25, Tryz.ntmps25
  go_wp2_with (first
    | (go_at_call 53; refine (kbits (Ieee.double.word true infR) _).mono ?_; rw [H1.out]; rintro e w1 ⟨rfl, rfl⟩)
    | (go_at_call 60; refine (kminfs true _).mono ?_; rintro e w1 ⟨rfl, rfl⟩))
  go_ret
  exact ⟨rfl, rfl⟩
theorem kinfF (w : World) : Kp 25 #[.bool false] w (.int .u64 9218868437227405312) := by
  have h2 : bitsW (Ieee.double.word false infR) = 9218868437227405312 := by decide
  have H1 := Lib.hid h2
  clear h2
  go_enter Tryz.func25, Tryz.ntmps25
  go_wp2_with (first
    | (go_at_call 53; refine (kbits (Ieee.double.word false infR) _).mono ?_; rw [H1.out]; rintro e w1 ⟨rfl, rfl⟩)
    | (go_at_call 60; refine (kminfs false _).mono ?_; rintro e w1 ⟨rfl, rfl⟩))
  go_ret
  exact ⟨rfl, rfl⟩

/-- What the document's Int gives, and the program's. -/
def intW (n : Int) : Nat := Ieee.double.word (decide (n < 0)) (min (rnd n.natAbs 0) infR)
theorem intW_eq (n : Int) : bitsW (floatOfInt .f64 n) = intW n := by
  have e : floatOfInt .f64 n = intW n := nearest_eq (decide (n < 0)) n.natAbs 0
  rw [e]
  exact bitsW_of (nan_word (Nat.min_le_right _ _))
theorem kintW (n : Int) (w : World) : Kp 10 #[.int .i64 n] w (wd (intW n)) := by
  have := kint n w
  rw [intW_eq] at this
  exact this
theorem krInt {n : Int} (h1 : -9223372036854775808 ≤ n) (h2 : n ≤ 9223372036854775807) (w : World) : Calls Tryz.prog 81 #[.int .i64 n] w fun e w' => e = .returned (wd (intW n)) ∧ Below w.heap.size w w' := by
  obtain ⟨m, hm⟩ : ∃ m, n.natAbs = m := ⟨_, rfl⟩
  have hml : m < 2 ^ 64 := by omega
  have hd : (dig m).length ≤ 300 := Nat.le_trans (dig_len (k := 2) (Nat.lt_of_lt_of_le hml (by decide))) (by decide)
  have hv : ∀ neg, Ieee.double.word neg (min (rnd (2 * m + false.toNat) (0 - 1)) infR) = Ieee.double.word neg (min (rnd m 0) infR) := fun neg => by
    rw [Bool.toNat_false, Nat.add_zero, rnd_double]
  have HV := Lib.hid hv
  have HD := Lib.hid hd
  by_cases hn : n < 0
  · have e1 : IntKind.u64.wrap (-IntKind.u64.wrap n) = (m : Int) := by rw [IntKind.wrap_u64, IntKind.wrap_u64]; omega
    have e0 : intW n = Ieee.double.word true (min (rnd m 0) infR) := by unfold intW; rw [decide_eq_true hn, hm]
    rw [e0]
    clear e0 hm hd hv
    go_enter Tryz.func81, Tryz.ntmps81
    go_wp2_with (first
      | (go_at_call 68; refine (kround true 0 false K3.out HD.out (by omega) (by intro h; cases h)).mono ?_; rw [HV.out]; rintro e w4 ⟨rfl, b4⟩; have B4 := Lib.hid (B3.out.trans (b4.mono B3.out.size)); clear b4)
      | (go_at_call 69; refine (kfrom (n := m) hml _).mono ?_; rintro e w3 ⟨p3, rfl, k3, b3⟩; have K3 := Lib.hid k3; have B3 := Lib.hid b3; clear k3 b3))
    go_ret
    exact ⟨rfl, B4.out⟩
  · have e1 : IntKind.u64.wrap n = (m : Int) := by rw [IntKind.wrap_u64]; omega
    have e0 : intW n = Ieee.double.word false (min (rnd m 0) infR) := by unfold intW; rw [decide_eq_false hn, hm]
    rw [e0]
    clear e0 hm hd hv
    go_enter Tryz.func81, Tryz.ntmps81
    go_wp2_with (first
      | (go_at_call 68; refine (kround false 0 false K3.out HD.out (by omega) (by intro h; cases h)).mono ?_; rw [HV.out]; rintro e w4 ⟨rfl, b4⟩; have B4 := Lib.hid (B3.out.trans (b4.mono B3.out.size)); clear b4)
      | (go_at_call 69; refine (kfrom (n := m) hml _).mono ?_; rintro e w3 ⟨p3, rfl, k3, b3⟩; have K3 := Lib.hid k3; have B3 := Lib.hid b3; clear k3 b3))
    go_ret
    exact ⟨rfl, B4.out⟩
/-- Back again. -/
theorem int_back {n : Int} (h1 : -9007199254740992 ≤ n) (h2 : n ≤ 9007199254740992) : wholeK (intW n) = true ∧ wholeN (intW n) = n := by
  obtain ⟨r, hr, hv⟩ := rnd_int (k := n.natAbs) (by omega)
  have hi := infR_lt
  have e1 : rnd n.natAbs 0 = r := rnd_one hv.symm
  have e2 : intW n = Ieee.double.word (decide (n < 0)) r := by unfold intW; rw [e1, Nat.min_eq_left (by omega)]
  have e3 : rung (intW n) = r := by rw [e2]; exact rung_word (by omega)
  have e4 : isNeg (intW n) = decide (n < 0) := by rw [e2]; exact isNeg_word (by omega)
  have e5 : val r / U1 = n.natAbs := by rw [hv]; exact Nat.mul_div_cancel _ U1_pos
  have e6 : val r % U1 = 0 := by rw [hv]; exact Nat.mul_mod_left _ _
  have e7 : sv (intW n) = n := by
    unfold sv
    rw [e3, e4, e5]
    by_cases h : n < 0
    · rw [decide_eq_true h, if_pos rfl]; omega
    · rw [decide_eq_false h, if_neg (by decide)]; omega
  have e8 : wholeK (intW n) = true := by
    unfold wholeK
    rw [e3, e7, decide_eq_true hr, decide_eq_true e6, decide_eq_true (by omega), decide_eq_true (by omega)]
    rfl
  refine ⟨e8, ?_⟩
  unfold wholeN
  rw [e8, if_pos rfl, e7]
end Go.Proofs.YtoodbdjmbicaeaaGreatDoor
