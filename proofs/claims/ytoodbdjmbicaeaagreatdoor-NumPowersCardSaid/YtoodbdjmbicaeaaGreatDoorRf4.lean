/- The document's Add. No condition. -/
import Derived.Test.YtoodbdjmbicaeaaGreatDoorRf3
namespace Go.Proofs.YtoodbdjmbicaeaaGreatDoor
open Go.RowKit
set_option maxRecDepth 8000
set_option maxHeartbeats 1000000
set_option linter.unusedVariables false
set_option linter.unusedSimpArgs false

/-- Of a call: it gives that, and lets be what was there. -/
abbrev Kb (f : Nat) (args : Array Value) (w : World) (v : Value) : Prop := Calls Tryz.prog f args w fun e w' => e = .returned v ∧ Below w.heap.size w w'
theorem kroundR {lo : Nat} {w : World} {v : Value} {n : Nat} (neg : Bool) (e : Int) (more : Bool) (h : Bg lo w v n) (sa : (dig n).length ≤ 300) (he : -5000 ≤ e ∧ e ≤ 5000) (hm : more = true → 54 ≤ size n) :
    Kb 68 #[.bool neg, v, .int .i64 e, .bool more] w (wd (roundW neg n e more)) := kround neg e more h sa he hm
theorem sig_dig {a k : Nat} (hf : rung a < infR) : (dig (sig a k)).length ≤ 70 := small_dig (mg_lt _) (by have := pl_le hf; omega)
theorem sig_lt {a k : Nat} (hf : rung a < infR) : sig a k < bp 70 := Nat.lt_of_lt_of_le (lt_bp _) (bp_le (sig_dig hf))

theorem addN1 (a b : Nat) (ha : a < 2 ^ 64) (hb : b < 2 ^ 64) (w : World) (na : nanW a = true) :
    Kb 48 #[wd a, wd b] w (wd theNaN) := by
  go_enter Tryz.func48, Tryz.ntmps48
  go_wp2_with (first
    | (go_at_call 30; refine (krNaN (by assumption) _).mono ?_; rintro e wz ⟨rfl, hw1⟩; have hw2 := hw1.symm; clear hw1; subst hw2)
    | (go_at_call 31; refine (krInfQ (by assumption) _).mono ?_; rintro e wz ⟨rfl, hw1⟩; have hw2 := hw1.symm; clear hw1; subst hw2)
    | (go_at_call 37; refine (krNeg0 (by assumption) _).mono ?_; rintro e wz ⟨rfl, hw1⟩; have hw2 := hw1.symm; clear hw1; subst hw2)
    | (go_at_call 29; refine (krNought (by assumption) _).mono ?_; rintro e wz ⟨rfl, hw1⟩; have hw2 := hw1.symm; clear hw1; subst hw2))
  go_ret
  exact ⟨rfl, Below.refl _ _⟩

theorem addN2 (a b : Nat) (ha : a < 2 ^ 64) (hb : b < 2 ^ 64) (w : World) (na : nanW a = false) (nb : nanW b = true) :
    Kb 48 #[wd a, wd b] w (wd theNaN) := by
  go_enter Tryz.func48, Tryz.ntmps48
  go_wp2_with (first
    | (go_at_call 30; refine (krNaN (by assumption) _).mono ?_; rintro e wz ⟨rfl, hw1⟩; have hw2 := hw1.symm; clear hw1; subst hw2)
    | (go_at_call 31; refine (krInfQ (by assumption) _).mono ?_; rintro e wz ⟨rfl, hw1⟩; have hw2 := hw1.symm; clear hw1; subst hw2)
    | (go_at_call 37; refine (krNeg0 (by assumption) _).mono ?_; rintro e wz ⟨rfl, hw1⟩; have hw2 := hw1.symm; clear hw1; subst hw2)
    | (go_at_call 29; refine (krNought (by assumption) _).mono ?_; rintro e wz ⟨rfl, hw1⟩; have hw2 := hw1.symm; clear hw1; subst hw2))
  go_ret
  exact ⟨rfl, Below.refl _ _⟩

theorem addI0 (a b : Nat) (ha : a < 2 ^ 64) (hb : b < 2 ^ 64) (w : World) (na : nanW a = false) (nb : nanW b = false) (ia : isInfW a = true) (ib : isInfW b = true) (hne : ((a : Int) == (b : Int)) = false) :
    Kb 48 #[wd a, wd b] w (wd theNaN) := by
  go_enter Tryz.func48, Tryz.ntmps48
  go_wp2_with (first
    | (go_at_call 30; refine (krNaN (by assumption) _).mono ?_; rintro e wz ⟨rfl, hw1⟩; have hw2 := hw1.symm; clear hw1; subst hw2)
    | (go_at_call 31; refine (krInfQ (by assumption) _).mono ?_; rintro e wz ⟨rfl, hw1⟩; have hw2 := hw1.symm; clear hw1; subst hw2)
    | (go_at_call 37; refine (krNeg0 (by assumption) _).mono ?_; rintro e wz ⟨rfl, hw1⟩; have hw2 := hw1.symm; clear hw1; subst hw2)
    | (go_at_call 29; refine (krNought (by assumption) _).mono ?_; rintro e wz ⟨rfl, hw1⟩; have hw2 := hw1.symm; clear hw1; subst hw2))
  go_ret
  exact ⟨rfl, Below.refl _ _⟩

theorem addI1 (a b : Nat) (ha : a < 2 ^ 64) (hb : b < 2 ^ 64) (w : World) (na : nanW a = false) (nb : nanW b = false) (ia : isInfW a = true) (ib : isInfW b = false) :
    Kb 48 #[wd a, wd b] w (wd a) := by
  go_enter Tryz.func48, Tryz.ntmps48
  go_wp2_with (first
    | (go_at_call 30; refine (krNaN (by assumption) _).mono ?_; rintro e wz ⟨rfl, hw1⟩; have hw2 := hw1.symm; clear hw1; subst hw2)
    | (go_at_call 31; refine (krInfQ (by assumption) _).mono ?_; rintro e wz ⟨rfl, hw1⟩; have hw2 := hw1.symm; clear hw1; subst hw2)
    | (go_at_call 37; refine (krNeg0 (by assumption) _).mono ?_; rintro e wz ⟨rfl, hw1⟩; have hw2 := hw1.symm; clear hw1; subst hw2)
    | (go_at_call 29; refine (krNought (by assumption) _).mono ?_; rintro e wz ⟨rfl, hw1⟩; have hw2 := hw1.symm; clear hw1; subst hw2))
  go_ret
  exact ⟨rfl, Below.refl _ _⟩

theorem addI2 (a : Nat) (ha : a < 2 ^ 64) (w : World) (na : nanW a = false) (ia : isInfW a = true) :
    Kb 48 #[wd a, wd a] w (wd a) := by
  go_enter Tryz.func48, Tryz.ntmps48
  go_wp2_with (first
    | (go_at_call 30; refine (krNaN (by assumption) _).mono ?_; rintro e wz ⟨rfl, hw1⟩; have hw2 := hw1.symm; clear hw1; subst hw2)
    | (go_at_call 31; refine (krInfQ (by assumption) _).mono ?_; rintro e wz ⟨rfl, hw1⟩; have hw2 := hw1.symm; clear hw1; subst hw2)
    | (go_at_call 37; refine (krNeg0 (by assumption) _).mono ?_; rintro e wz ⟨rfl, hw1⟩; have hw2 := hw1.symm; clear hw1; subst hw2)
    | (go_at_call 29; refine (krNought (by assumption) _).mono ?_; rintro e wz ⟨rfl, hw1⟩; have hw2 := hw1.symm; clear hw1; subst hw2))
  go_ret
  exact ⟨rfl, Below.refl _ _⟩

theorem addI3 (a b : Nat) (ha : a < 2 ^ 64) (hb : b < 2 ^ 64) (w : World) (na : nanW a = false) (nb : nanW b = false) (ia : isInfW a = false) (ib : isInfW b = true) :
    Kb 48 #[wd a, wd b] w (wd b) := by
  go_enter Tryz.func48, Tryz.ntmps48
  go_wp2_with (first
    | (go_at_call 30; refine (krNaN (by assumption) _).mono ?_; rintro e wz ⟨rfl, hw1⟩; have hw2 := hw1.symm; clear hw1; subst hw2)
    | (go_at_call 31; refine (krInfQ (by assumption) _).mono ?_; rintro e wz ⟨rfl, hw1⟩; have hw2 := hw1.symm; clear hw1; subst hw2)
    | (go_at_call 37; refine (krNeg0 (by assumption) _).mono ?_; rintro e wz ⟨rfl, hw1⟩; have hw2 := hw1.symm; clear hw1; subst hw2)
    | (go_at_call 29; refine (krNought (by assumption) _).mono ?_; rintro e wz ⟨rfl, hw1⟩; have hw2 := hw1.symm; clear hw1; subst hw2))
  go_ret
  exact ⟨rfl, Below.refl _ _⟩

theorem addSt (a b k : Nat) (l : Int) (X Y : Nat) (ha : a < 2 ^ 64) (hb : b < 2 ^ 64) (hlb : -5000 ≤ l ∧ l ≤ 5000) (XD : (dig X).length ≤ 70) (YD : (dig Y).length ≤ 70) (w : World) (na : nanW a = false) (nb : nanW b = false) (ia : isInfW a = false) (ib : isInfW b = false) (LN0 : Calls Tryz.prog 70 #[wd a, wd b] w fun e w' => ∃ u u', e = .returned (.tuple #[u, u', .int .i64 l]) ∧ Bg w.heap.size w' u X ∧ Bg w.heap.size w' u' Y ∧ Below w.heap.size w w') (ga : isNeg a = true) (gb : isNeg b = true) :
    Kb 48 #[wd a, wd b] w (wd (roundW true (X + Y) l false)) := by
  obtain ⟨base, hbase⟩ : ∃ base, w.heap.size = base := ⟨_, rfl⟩
  unfold Kb
  rw [hbase] at LN0 ⊢
  have LN := Lib.hid LN0
  have X1 := Lib.hid (show (dig X).length ≤ 1000 by omega)
  have Y1 := Lib.hid (show (dig Y).length ≤ 1000 by omega)
  have X3 := Lib.hid (show X < bp 70 from Nat.lt_of_lt_of_le (lt_bp X) (bp_le XD))
  have Y3 := Lib.hid (show Y < bp 70 from Nat.lt_of_lt_of_le (lt_bp Y) (bp_le YD))
  have h71 : bp 71 = bp 70 * 4294967296 := bp_succ 70
  have S5 := Lib.hid (show (dig (X + Y)).length ≤ 300 from Nat.le_trans (dig_len (k := 71) (by have := X3.out; have := Y3.out; omega)) (by decide))
  clear LN0 h71
  go_enter Tryz.func48, Tryz.ntmps48
  go_wp2_with (first
    | (go_at_call 68; refine (kroundR true l false K5.out S5.out hlb (by intro h; cases h)).mono ?_; rintro e w6 ⟨rfl, b6⟩; have B6 := Lib.hid (B5.out.trans (b6.mono (by have := B5.out.size; omega))); clear b6)
    | (go_at_call 85; refine (kplus K3.out J3.out X1.out Y1.out).mono ?_; rintro e w5 ⟨p5, rfl, k5, b5⟩; have K5 := Lib.hid k5; have B5 := Lib.hid (B3.out.trans (b5.mono (by have := B3.out.size; omega))); clear k5 b5)
    | (go_at_call 70; refine (LN.out).mono ?_; rintro e w3 ⟨p3, q3, rfl, k3, j3, b3⟩; have K3 := Lib.hid k3; have J3 := Lib.hid j3; have B3 := Lib.hid b3; clear k3 j3 b3)
    | (go_at_call 30; refine (krNaN (by assumption) _).mono ?_; rintro e wz ⟨rfl, hw1⟩; have hw2 := hw1.symm; clear hw1; subst hw2)
    | (go_at_call 31; refine (krInfQ (by assumption) _).mono ?_; rintro e wz ⟨rfl, hw1⟩; have hw2 := hw1.symm; clear hw1; subst hw2)
    | (go_at_call 37; refine (krNeg0 (by assumption) _).mono ?_; rintro e wz ⟨rfl, hw1⟩; have hw2 := hw1.symm; clear hw1; subst hw2)
    | (go_at_call 29; refine (krNought (by assumption) _).mono ?_; rintro e wz ⟨rfl, hw1⟩; have hw2 := hw1.symm; clear hw1; subst hw2))
  go_ret
  exact ⟨rfl, B6.out⟩

theorem addEt (a b k : Nat) (l : Int) (X Y : Nat) (ha : a < 2 ^ 64) (hb : b < 2 ^ 64) (hlb : -5000 ≤ l ∧ l ≤ 5000) (XD : (dig X).length ≤ 70) (YD : (dig Y).length ≤ 70) (w : World) (na : nanW a = false) (nb : nanW b = false) (ia : isInfW a = false) (ib : isInfW b = false) (LN0 : Calls Tryz.prog 70 #[wd a, wd b] w fun e w' => ∃ u u', e = .returned (.tuple #[u, u', .int .i64 l]) ∧ Bg w.heap.size w' u X ∧ Bg w.heap.size w' u' Y ∧ Below w.heap.size w w') (ga : isNeg a = true) (gb : isNeg b = false) (hc : cmpN X Y = 0) :
    Kb 48 #[wd a, wd b] w (wd 0) := by
  obtain ⟨base, hbase⟩ : ∃ base, w.heap.size = base := ⟨_, rfl⟩
  unfold Kb
  rw [hbase] at LN0 ⊢
  have LN := Lib.hid LN0
  have X1 := Lib.hid (show (dig X).length ≤ 1000 by omega)
  have Y1 := Lib.hid (show (dig Y).length ≤ 1000 by omega)
  have X3 := Lib.hid (show X < bp 70 from Nat.lt_of_lt_of_le (lt_bp X) (bp_le XD))
  have Y3 := Lib.hid (show Y < bp 70 from Nat.lt_of_lt_of_le (lt_bp Y) (bp_le YD))
  have h71 : bp 71 = bp 70 * 4294967296 := bp_succ 70
  clear LN0 h71
  go_enter Tryz.func48, Tryz.ntmps48
  go_wp2_with (first
    | (go_at_call 71; refine (kless K3.out J3.out).mono ?_; rintro e w4 ⟨rfl, n4, rfl⟩; have K4 := Lib.hid (K3.out.keep (drew_below w3 _ n4)); have J4 := Lib.hid (J3.out.keep (drew_below w3 _ n4)); have B4 := Lib.hid (B3.out.trans (drew_below w3 base n4)))
    | (go_at_call 70; refine (LN.out).mono ?_; rintro e w3 ⟨p3, q3, rfl, k3, j3, b3⟩; have K3 := Lib.hid k3; have J3 := Lib.hid j3; have B3 := Lib.hid b3; clear k3 j3 b3)
    | (go_at_call 30; refine (krNaN (by assumption) _).mono ?_; rintro e wz ⟨rfl, hw1⟩; have hw2 := hw1.symm; clear hw1; subst hw2)
    | (go_at_call 31; refine (krInfQ (by assumption) _).mono ?_; rintro e wz ⟨rfl, hw1⟩; have hw2 := hw1.symm; clear hw1; subst hw2)
    | (go_at_call 37; refine (krNeg0 (by assumption) _).mono ?_; rintro e wz ⟨rfl, hw1⟩; have hw2 := hw1.symm; clear hw1; subst hw2)
    | (go_at_call 29; refine (krNought (by assumption) _).mono ?_; rintro e wz ⟨rfl, hw1⟩; have hw2 := hw1.symm; clear hw1; subst hw2))
  go_ret
  exact ⟨rfl, B4.out⟩

theorem addGt (a b k : Nat) (l : Int) (X Y : Nat) (ha : a < 2 ^ 64) (hb : b < 2 ^ 64) (hlb : -5000 ≤ l ∧ l ≤ 5000) (XD : (dig X).length ≤ 70) (YD : (dig Y).length ≤ 70) (w : World) (na : nanW a = false) (nb : nanW b = false) (ia : isInfW a = false) (ib : isInfW b = false) (LN0 : Calls Tryz.prog 70 #[wd a, wd b] w fun e w' => ∃ u u', e = .returned (.tuple #[u, u', .int .i64 l]) ∧ Bg w.heap.size w' u X ∧ Bg w.heap.size w' u' Y ∧ Below w.heap.size w w') (ga : isNeg a = true) (gb : isNeg b = false) (hc : cmpN X Y = 1) (hle0 : Y ≤ X) :
    Kb 48 #[wd a, wd b] w (wd (roundW true (X - Y) l false)) := by
  obtain ⟨base, hbase⟩ : ∃ base, w.heap.size = base := ⟨_, rfl⟩
  unfold Kb
  rw [hbase] at LN0 ⊢
  have LN := Lib.hid LN0
  have X1 := Lib.hid (show (dig X).length ≤ 1000 by omega)
  have Y1 := Lib.hid (show (dig Y).length ≤ 1000 by omega)
  have X3 := Lib.hid (show X < bp 70 from Nat.lt_of_lt_of_le (lt_bp X) (bp_le XD))
  have Y3 := Lib.hid (show Y < bp 70 from Nat.lt_of_lt_of_le (lt_bp Y) (bp_le YD))
  have h71 : bp 71 = bp 70 * 4294967296 := bp_succ 70
  have S5 := Lib.hid (show (dig (X - Y)).length ≤ 300 from Nat.le_trans (dig_len (k := 71) (by have := X3.out; omega)) (by decide))
  have HLE := Lib.hid hle0
  clear LN0 h71 hle0
  go_enter Tryz.func48, Tryz.ntmps48
  go_wp2_with (first
    | (go_at_call 68; refine (kroundR true l false K5.out S5.out hlb (by intro h; cases h)).mono ?_; rintro e w6 ⟨rfl, b6⟩; have B6 := Lib.hid (B5.out.trans (b6.mono (by have := B5.out.size; omega))); clear b6)
    | (go_at_call 86; refine (kminus K4.out J4.out HLE.out X1.out).mono ?_; rintro e w5 ⟨p5, rfl, k5, b5⟩; have K5 := Lib.hid k5; have B5 := Lib.hid (B4.out.trans (b5.mono (by have := B4.out.size; simp at this ⊢; omega))); clear k5 b5)
    | (go_at_call 71; refine (kless K3.out J3.out).mono ?_; rintro e w4 ⟨rfl, n4, rfl⟩; have K4 := Lib.hid (K3.out.keep (drew_below w3 _ n4)); have J4 := Lib.hid (J3.out.keep (drew_below w3 _ n4)); have B4 := Lib.hid (B3.out.trans (drew_below w3 base n4)))
    | (go_at_call 70; refine (LN.out).mono ?_; rintro e w3 ⟨p3, q3, rfl, k3, j3, b3⟩; have K3 := Lib.hid k3; have J3 := Lib.hid j3; have B3 := Lib.hid b3; clear k3 j3 b3)
    | (go_at_call 30; refine (krNaN (by assumption) _).mono ?_; rintro e wz ⟨rfl, hw1⟩; have hw2 := hw1.symm; clear hw1; subst hw2)
    | (go_at_call 31; refine (krInfQ (by assumption) _).mono ?_; rintro e wz ⟨rfl, hw1⟩; have hw2 := hw1.symm; clear hw1; subst hw2)
    | (go_at_call 37; refine (krNeg0 (by assumption) _).mono ?_; rintro e wz ⟨rfl, hw1⟩; have hw2 := hw1.symm; clear hw1; subst hw2)
    | (go_at_call 29; refine (krNought (by assumption) _).mono ?_; rintro e wz ⟨rfl, hw1⟩; have hw2 := hw1.symm; clear hw1; subst hw2))
  go_ret
  exact ⟨rfl, B6.out⟩

theorem addLt (a b k : Nat) (l : Int) (X Y : Nat) (ha : a < 2 ^ 64) (hb : b < 2 ^ 64) (hlb : -5000 ≤ l ∧ l ≤ 5000) (XD : (dig X).length ≤ 70) (YD : (dig Y).length ≤ 70) (w : World) (na : nanW a = false) (nb : nanW b = false) (ia : isInfW a = false) (ib : isInfW b = false) (LN0 : Calls Tryz.prog 70 #[wd a, wd b] w fun e w' => ∃ u u', e = .returned (.tuple #[u, u', .int .i64 l]) ∧ Bg w.heap.size w' u X ∧ Bg w.heap.size w' u' Y ∧ Below w.heap.size w w') (ga : isNeg a = true) (gb : isNeg b = false) (hc : cmpN X Y = -1) (hle0 : X ≤ Y) :
    Kb 48 #[wd a, wd b] w (wd (roundW false (Y - X) l false)) := by
  obtain ⟨base, hbase⟩ : ∃ base, w.heap.size = base := ⟨_, rfl⟩
  unfold Kb
  rw [hbase] at LN0 ⊢
  have LN := Lib.hid LN0
  have X1 := Lib.hid (show (dig X).length ≤ 1000 by omega)
  have Y1 := Lib.hid (show (dig Y).length ≤ 1000 by omega)
  have X3 := Lib.hid (show X < bp 70 from Nat.lt_of_lt_of_le (lt_bp X) (bp_le XD))
  have Y3 := Lib.hid (show Y < bp 70 from Nat.lt_of_lt_of_le (lt_bp Y) (bp_le YD))
  have h71 : bp 71 = bp 70 * 4294967296 := bp_succ 70
  have S5 := Lib.hid (show (dig (Y - X)).length ≤ 300 from Nat.le_trans (dig_len (k := 71) (by have := Y3.out; omega)) (by decide))
  have HLE := Lib.hid hle0
  clear LN0 h71 hle0
  go_enter Tryz.func48, Tryz.ntmps48
  go_wp2_with (first
    | (go_at_call 68; refine (kroundR false l false K5.out S5.out hlb (by intro h; cases h)).mono ?_; rintro e w6 ⟨rfl, b6⟩; have B6 := Lib.hid (B5.out.trans (b6.mono (by have := B5.out.size; omega))); clear b6)
    | (go_at_call 86; refine (kminus J4.out K4.out HLE.out Y1.out).mono ?_; rintro e w5 ⟨p5, rfl, k5, b5⟩; have K5 := Lib.hid k5; have B5 := Lib.hid (B4.out.trans (b5.mono (by have := B4.out.size; simp at this ⊢; omega))); clear k5 b5)
    | (go_at_call 71; refine (kless K3.out J3.out).mono ?_; rintro e w4 ⟨rfl, n4, rfl⟩; have K4 := Lib.hid (K3.out.keep (drew_below w3 _ n4)); have J4 := Lib.hid (J3.out.keep (drew_below w3 _ n4)); have B4 := Lib.hid (B3.out.trans (drew_below w3 base n4)))
    | (go_at_call 70; refine (LN.out).mono ?_; rintro e w3 ⟨p3, q3, rfl, k3, j3, b3⟩; have K3 := Lib.hid k3; have J3 := Lib.hid j3; have B3 := Lib.hid b3; clear k3 j3 b3)
    | (go_at_call 30; refine (krNaN (by assumption) _).mono ?_; rintro e wz ⟨rfl, hw1⟩; have hw2 := hw1.symm; clear hw1; subst hw2)
    | (go_at_call 31; refine (krInfQ (by assumption) _).mono ?_; rintro e wz ⟨rfl, hw1⟩; have hw2 := hw1.symm; clear hw1; subst hw2)
    | (go_at_call 37; refine (krNeg0 (by assumption) _).mono ?_; rintro e wz ⟨rfl, hw1⟩; have hw2 := hw1.symm; clear hw1; subst hw2)
    | (go_at_call 29; refine (krNought (by assumption) _).mono ?_; rintro e wz ⟨rfl, hw1⟩; have hw2 := hw1.symm; clear hw1; subst hw2))
  go_ret
  exact ⟨rfl, B6.out⟩

theorem addSf (a b k : Nat) (l : Int) (X Y : Nat) (ha : a < 2 ^ 64) (hb : b < 2 ^ 64) (hlb : -5000 ≤ l ∧ l ≤ 5000) (XD : (dig X).length ≤ 70) (YD : (dig Y).length ≤ 70) (w : World) (na : nanW a = false) (nb : nanW b = false) (ia : isInfW a = false) (ib : isInfW b = false) (LN0 : Calls Tryz.prog 70 #[wd a, wd b] w fun e w' => ∃ u u', e = .returned (.tuple #[u, u', .int .i64 l]) ∧ Bg w.heap.size w' u X ∧ Bg w.heap.size w' u' Y ∧ Below w.heap.size w w') (ga : isNeg a = false) (gb : isNeg b = false) :
    Kb 48 #[wd a, wd b] w (wd (roundW false (X + Y) l false)) := by
  obtain ⟨base, hbase⟩ : ∃ base, w.heap.size = base := ⟨_, rfl⟩
  unfold Kb
  rw [hbase] at LN0 ⊢
  have LN := Lib.hid LN0
  have X1 := Lib.hid (show (dig X).length ≤ 1000 by omega)
  have Y1 := Lib.hid (show (dig Y).length ≤ 1000 by omega)
  have X3 := Lib.hid (show X < bp 70 from Nat.lt_of_lt_of_le (lt_bp X) (bp_le XD))
  have Y3 := Lib.hid (show Y < bp 70 from Nat.lt_of_lt_of_le (lt_bp Y) (bp_le YD))
  have h71 : bp 71 = bp 70 * 4294967296 := bp_succ 70
  have S5 := Lib.hid (show (dig (X + Y)).length ≤ 300 from Nat.le_trans (dig_len (k := 71) (by have := X3.out; have := Y3.out; omega)) (by decide))
  clear LN0 h71
  go_enter Tryz.func48, Tryz.ntmps48
  go_wp2_with (first
    | (go_at_call 68; refine (kroundR false l false K5.out S5.out hlb (by intro h; cases h)).mono ?_; rintro e w6 ⟨rfl, b6⟩; have B6 := Lib.hid (B5.out.trans (b6.mono (by have := B5.out.size; omega))); clear b6)
    | (go_at_call 85; refine (kplus K3.out J3.out X1.out Y1.out).mono ?_; rintro e w5 ⟨p5, rfl, k5, b5⟩; have K5 := Lib.hid k5; have B5 := Lib.hid (B3.out.trans (b5.mono (by have := B3.out.size; omega))); clear k5 b5)
    | (go_at_call 70; refine (LN.out).mono ?_; rintro e w3 ⟨p3, q3, rfl, k3, j3, b3⟩; have K3 := Lib.hid k3; have J3 := Lib.hid j3; have B3 := Lib.hid b3; clear k3 j3 b3)
    | (go_at_call 30; refine (krNaN (by assumption) _).mono ?_; rintro e wz ⟨rfl, hw1⟩; have hw2 := hw1.symm; clear hw1; subst hw2)
    | (go_at_call 31; refine (krInfQ (by assumption) _).mono ?_; rintro e wz ⟨rfl, hw1⟩; have hw2 := hw1.symm; clear hw1; subst hw2)
    | (go_at_call 37; refine (krNeg0 (by assumption) _).mono ?_; rintro e wz ⟨rfl, hw1⟩; have hw2 := hw1.symm; clear hw1; subst hw2)
    | (go_at_call 29; refine (krNought (by assumption) _).mono ?_; rintro e wz ⟨rfl, hw1⟩; have hw2 := hw1.symm; clear hw1; subst hw2))
  go_ret
  exact ⟨rfl, B6.out⟩

theorem addEf (a b k : Nat) (l : Int) (X Y : Nat) (ha : a < 2 ^ 64) (hb : b < 2 ^ 64) (hlb : -5000 ≤ l ∧ l ≤ 5000) (XD : (dig X).length ≤ 70) (YD : (dig Y).length ≤ 70) (w : World) (na : nanW a = false) (nb : nanW b = false) (ia : isInfW a = false) (ib : isInfW b = false) (LN0 : Calls Tryz.prog 70 #[wd a, wd b] w fun e w' => ∃ u u', e = .returned (.tuple #[u, u', .int .i64 l]) ∧ Bg w.heap.size w' u X ∧ Bg w.heap.size w' u' Y ∧ Below w.heap.size w w') (ga : isNeg a = false) (gb : isNeg b = true) (hc : cmpN X Y = 0) :
    Kb 48 #[wd a, wd b] w (wd 0) := by
  obtain ⟨base, hbase⟩ : ∃ base, w.heap.size = base := ⟨_, rfl⟩
  unfold Kb
  rw [hbase] at LN0 ⊢
  have LN := Lib.hid LN0
  have X1 := Lib.hid (show (dig X).length ≤ 1000 by omega)
  have Y1 := Lib.hid (show (dig Y).length ≤ 1000 by omega)
  have X3 := Lib.hid (show X < bp 70 from Nat.lt_of_lt_of_le (lt_bp X) (bp_le XD))
  have Y3 := Lib.hid (show Y < bp 70 from Nat.lt_of_lt_of_le (lt_bp Y) (bp_le YD))
  have h71 : bp 71 = bp 70 * 4294967296 := bp_succ 70
  clear LN0 h71
  go_enter Tryz.func48, Tryz.ntmps48
  go_wp2_with (first
    | (go_at_call 71; refine (kless K3.out J3.out).mono ?_; rintro e w4 ⟨rfl, n4, rfl⟩; have K4 := Lib.hid (K3.out.keep (drew_below w3 _ n4)); have J4 := Lib.hid (J3.out.keep (drew_below w3 _ n4)); have B4 := Lib.hid (B3.out.trans (drew_below w3 base n4)))
    | (go_at_call 70; refine (LN.out).mono ?_; rintro e w3 ⟨p3, q3, rfl, k3, j3, b3⟩; have K3 := Lib.hid k3; have J3 := Lib.hid j3; have B3 := Lib.hid b3; clear k3 j3 b3)
    | (go_at_call 30; refine (krNaN (by assumption) _).mono ?_; rintro e wz ⟨rfl, hw1⟩; have hw2 := hw1.symm; clear hw1; subst hw2)
    | (go_at_call 31; refine (krInfQ (by assumption) _).mono ?_; rintro e wz ⟨rfl, hw1⟩; have hw2 := hw1.symm; clear hw1; subst hw2)
    | (go_at_call 37; refine (krNeg0 (by assumption) _).mono ?_; rintro e wz ⟨rfl, hw1⟩; have hw2 := hw1.symm; clear hw1; subst hw2)
    | (go_at_call 29; refine (krNought (by assumption) _).mono ?_; rintro e wz ⟨rfl, hw1⟩; have hw2 := hw1.symm; clear hw1; subst hw2))
  go_ret
  exact ⟨rfl, B4.out⟩

theorem addGf (a b k : Nat) (l : Int) (X Y : Nat) (ha : a < 2 ^ 64) (hb : b < 2 ^ 64) (hlb : -5000 ≤ l ∧ l ≤ 5000) (XD : (dig X).length ≤ 70) (YD : (dig Y).length ≤ 70) (w : World) (na : nanW a = false) (nb : nanW b = false) (ia : isInfW a = false) (ib : isInfW b = false) (LN0 : Calls Tryz.prog 70 #[wd a, wd b] w fun e w' => ∃ u u', e = .returned (.tuple #[u, u', .int .i64 l]) ∧ Bg w.heap.size w' u X ∧ Bg w.heap.size w' u' Y ∧ Below w.heap.size w w') (ga : isNeg a = false) (gb : isNeg b = true) (hc : cmpN X Y = 1) (hle0 : Y ≤ X) :
    Kb 48 #[wd a, wd b] w (wd (roundW false (X - Y) l false)) := by
  obtain ⟨base, hbase⟩ : ∃ base, w.heap.size = base := ⟨_, rfl⟩
  unfold Kb
  rw [hbase] at LN0 ⊢
  have LN := Lib.hid LN0
  have X1 := Lib.hid (show (dig X).length ≤ 1000 by omega)
  have Y1 := Lib.hid (show (dig Y).length ≤ 1000 by omega)
  have X3 := Lib.hid (show X < bp 70 from Nat.lt_of_lt_of_le (lt_bp X) (bp_le XD))
  have Y3 := Lib.hid (show Y < bp 70 from Nat.lt_of_lt_of_le (lt_bp Y) (bp_le YD))
  have h71 : bp 71 = bp 70 * 4294967296 := bp_succ 70
  have S5 := Lib.hid (show (dig (X - Y)).length ≤ 300 from Nat.le_trans (dig_len (k := 71) (by have := X3.out; omega)) (by decide))
  have HLE := Lib.hid hle0
  clear LN0 h71 hle0
  go_enter Tryz.func48, Tryz.ntmps48
  go_wp2_with (first
    | (go_at_call 68; refine (kroundR false l false K5.out S5.out hlb (by intro h; cases h)).mono ?_; rintro e w6 ⟨rfl, b6⟩; have B6 := Lib.hid (B5.out.trans (b6.mono (by have := B5.out.size; omega))); clear b6)
    | (go_at_call 86; refine (kminus K4.out J4.out HLE.out X1.out).mono ?_; rintro e w5 ⟨p5, rfl, k5, b5⟩; have K5 := Lib.hid k5; have B5 := Lib.hid (B4.out.trans (b5.mono (by have := B4.out.size; simp at this ⊢; omega))); clear k5 b5)
    | (go_at_call 71; refine (kless K3.out J3.out).mono ?_; rintro e w4 ⟨rfl, n4, rfl⟩; have K4 := Lib.hid (K3.out.keep (drew_below w3 _ n4)); have J4 := Lib.hid (J3.out.keep (drew_below w3 _ n4)); have B4 := Lib.hid (B3.out.trans (drew_below w3 base n4)))
    | (go_at_call 70; refine (LN.out).mono ?_; rintro e w3 ⟨p3, q3, rfl, k3, j3, b3⟩; have K3 := Lib.hid k3; have J3 := Lib.hid j3; have B3 := Lib.hid b3; clear k3 j3 b3)
    | (go_at_call 30; refine (krNaN (by assumption) _).mono ?_; rintro e wz ⟨rfl, hw1⟩; have hw2 := hw1.symm; clear hw1; subst hw2)
    | (go_at_call 31; refine (krInfQ (by assumption) _).mono ?_; rintro e wz ⟨rfl, hw1⟩; have hw2 := hw1.symm; clear hw1; subst hw2)
    | (go_at_call 37; refine (krNeg0 (by assumption) _).mono ?_; rintro e wz ⟨rfl, hw1⟩; have hw2 := hw1.symm; clear hw1; subst hw2)
    | (go_at_call 29; refine (krNought (by assumption) _).mono ?_; rintro e wz ⟨rfl, hw1⟩; have hw2 := hw1.symm; clear hw1; subst hw2))
  go_ret
  exact ⟨rfl, B6.out⟩

theorem addLf (a b k : Nat) (l : Int) (X Y : Nat) (ha : a < 2 ^ 64) (hb : b < 2 ^ 64) (hlb : -5000 ≤ l ∧ l ≤ 5000) (XD : (dig X).length ≤ 70) (YD : (dig Y).length ≤ 70) (w : World) (na : nanW a = false) (nb : nanW b = false) (ia : isInfW a = false) (ib : isInfW b = false) (LN0 : Calls Tryz.prog 70 #[wd a, wd b] w fun e w' => ∃ u u', e = .returned (.tuple #[u, u', .int .i64 l]) ∧ Bg w.heap.size w' u X ∧ Bg w.heap.size w' u' Y ∧ Below w.heap.size w w') (ga : isNeg a = false) (gb : isNeg b = true) (hc : cmpN X Y = -1) (hle0 : X ≤ Y) :
    Kb 48 #[wd a, wd b] w (wd (roundW true (Y - X) l false)) := by
  obtain ⟨base, hbase⟩ : ∃ base, w.heap.size = base := ⟨_, rfl⟩
  unfold Kb
  rw [hbase] at LN0 ⊢
  have LN := Lib.hid LN0
  have X1 := Lib.hid (show (dig X).length ≤ 1000 by omega)
  have Y1 := Lib.hid (show (dig Y).length ≤ 1000 by omega)
  have X3 := Lib.hid (show X < bp 70 from Nat.lt_of_lt_of_le (lt_bp X) (bp_le XD))
  have Y3 := Lib.hid (show Y < bp 70 from Nat.lt_of_lt_of_le (lt_bp Y) (bp_le YD))
  have h71 : bp 71 = bp 70 * 4294967296 := bp_succ 70
  have S5 := Lib.hid (show (dig (Y - X)).length ≤ 300 from Nat.le_trans (dig_len (k := 71) (by have := Y3.out; omega)) (by decide))
  have HLE := Lib.hid hle0
  clear LN0 h71 hle0
  go_enter Tryz.func48, Tryz.ntmps48
  go_wp2_with (first
    | (go_at_call 68; refine (kroundR true l false K5.out S5.out hlb (by intro h; cases h)).mono ?_; rintro e w6 ⟨rfl, b6⟩; have B6 := Lib.hid (B5.out.trans (b6.mono (by have := B5.out.size; omega))); clear b6)
    | (go_at_call 86; refine (kminus J4.out K4.out HLE.out Y1.out).mono ?_; rintro e w5 ⟨p5, rfl, k5, b5⟩; have K5 := Lib.hid k5; have B5 := Lib.hid (B4.out.trans (b5.mono (by have := B4.out.size; simp at this ⊢; omega))); clear k5 b5)
    | (go_at_call 71; refine (kless K3.out J3.out).mono ?_; rintro e w4 ⟨rfl, n4, rfl⟩; have K4 := Lib.hid (K3.out.keep (drew_below w3 _ n4)); have J4 := Lib.hid (J3.out.keep (drew_below w3 _ n4)); have B4 := Lib.hid (B3.out.trans (drew_below w3 base n4)))
    | (go_at_call 70; refine (LN.out).mono ?_; rintro e w3 ⟨p3, q3, rfl, k3, j3, b3⟩; have K3 := Lib.hid k3; have J3 := Lib.hid j3; have B3 := Lib.hid b3; clear k3 j3 b3)
    | (go_at_call 30; refine (krNaN (by assumption) _).mono ?_; rintro e wz ⟨rfl, hw1⟩; have hw2 := hw1.symm; clear hw1; subst hw2)
    | (go_at_call 31; refine (krInfQ (by assumption) _).mono ?_; rintro e wz ⟨rfl, hw1⟩; have hw2 := hw1.symm; clear hw1; subst hw2)
    | (go_at_call 37; refine (krNeg0 (by assumption) _).mono ?_; rintro e wz ⟨rfl, hw1⟩; have hw2 := hw1.symm; clear hw1; subst hw2)
    | (go_at_call 29; refine (krNought (by assumption) _).mono ?_; rintro e wz ⟨rfl, hw1⟩; have hw2 := hw1.symm; clear hw1; subst hw2))
  go_ret
  exact ⟨rfl, B6.out⟩

theorem kradd {a b : Nat} (ha : a < 2 ^ 64) (hb : b < 2 ^ 64) (w : World) : Kb 48 #[wd a, wd b] w (wd (opt (Ieee.double.add a b))) := by
  have hi := infR_lt
  cases na : nanW a
  · cases nb : nanW b
    · by_cases ia : rung a = infR
      · have ia' : isInfW a = true := by unfold isInfW; rw [ia]; decide
        have wa : Ieee.double.word (isNeg a) infR = a := by rw [← ia, word_split ha]
        by_cases ib : rung b = infR
        · have ib' : isInfW b = true := by unfold isInfW; rw [ib]; decide
          have wb : Ieee.double.word (isNeg b) infR = b := by rw [← ib, word_split hb]
          rw [add_infs ia ib]
          by_cases hs : isNeg a = isNeg b
          · have hab : a = b := by rw [← wa, ← wb, hs]
            subst hab
            rw [if_pos rfl, opt_word (Nat.le_refl _), wa]
            exact addI2 a ha w na ia'
          · rw [if_neg hs]
            have hne : ((a : Int) == (b : Int)) = false := by
              simp only [beq_eq_false_iff_ne]
              intro h
              have : a = b := by omega
              exact hs (by rw [this])
            exact addI0 a b ha hb w na nb ia' ib' hne
        · have fb : rung b < infR := by have := nan_false nb; omega
          have ib' : isInfW b = false := by unfold isInfW; simpa using ib
          rw [add_inf ia fb, opt_word (Nat.le_refl _), wa]
          exact addI1 a b ha hb w na nb ia' ib'
      · have fa : rung a < infR := by have := nan_false na; omega
        have ia' : isInfW a = false := by unfold isInfW; simpa using ia
        by_cases ib : rung b = infR
        · have ib' : isInfW b = true := by unfold isInfW; rw [ib]; decide
          have wb : Ieee.double.word (isNeg b) infR = b := by rw [← ib, word_split hb]
          rw [add_comm', add_inf ib fa, opt_word (Nat.le_refl _), wb]
          exact addI3 a b ha hb w na nb ia' ib'
        · have fb : rung b < infR := by have := nan_false nb; omega
          have ib' : isInfW b = false := by unfold isInfW; simpa using ib
          obtain ⟨k, hk⟩ : ∃ k, min (pl (rung a)) (pl (rung b)) = k := ⟨_, rfl⟩
          have hkl := pl_le fa
          obtain ⟨r1, r2, r3, r4⟩ := add_ref (k := k) fa fb (by omega) (by omega)
          have LN := krline ha hb fa fb w
          rw [hk] at LN
          obtain ⟨l, hl⟩ : ∃ l : Int, -1074 + (k : Int) = l := ⟨_, rfl⟩
          have hlb : -5000 ≤ l ∧ l ≤ 5000 := by omega
          rw [hl] at r1 r3 r4 LN
          have xd := sig_dig (k := k) fa
          have yd := sig_dig (k := k) fb
          obtain ⟨X, hX⟩ : ∃ X, sig a k = X := ⟨_, rfl⟩
          obtain ⟨Y, hY⟩ : ∃ Y, sig b k = Y := ⟨_, rfl⟩
          rw [hX] at r1 r2 r3 r4 LN xd
          rw [hY] at r1 r2 r3 r4 LN yd
          have c0 : X = Y → cmpN X Y = 0 := fun h => by unfold cmpN; rw [if_neg (by omega), if_neg (by omega)]
          have c1 : Y < X → cmpN X Y = 1 := fun h => by unfold cmpN; rw [if_neg (by omega), if_pos h]
          have c2 : X < Y → cmpN X Y = -1 := fun h => by unfold cmpN; rw [if_pos h]
          cases ga : isNeg a <;> cases gb : isNeg b <;> rw [ga, gb] at r1 r2 r3 r4
          · rw [r1 rfl]; exact addSf a b k l X Y ha hb hlb xd yd w na nb ia' ib' LN ga gb
          · rcases Nat.lt_trichotomy X Y with h | h | h
            · rw [r4 (by decide) h]; exact addLf a b k l X Y ha hb hlb xd yd w na nb ia' ib' LN ga gb (c2 h) (Nat.le_of_lt h)
            · rw [r2 (by decide) h]; exact addEf a b k l X Y ha hb hlb xd yd w na nb ia' ib' LN ga gb (c0 h)
            · rw [r3 (by decide) h]; exact addGf a b k l X Y ha hb hlb xd yd w na nb ia' ib' LN ga gb (c1 h) (Nat.le_of_lt h)
          · rcases Nat.lt_trichotomy X Y with h | h | h
            · rw [r4 (by decide) h]; exact addLt a b k l X Y ha hb hlb xd yd w na nb ia' ib' LN ga gb (c2 h) (Nat.le_of_lt h)
            · rw [r2 (by decide) h]; exact addEt a b k l X Y ha hb hlb xd yd w na nb ia' ib' LN ga gb (c0 h)
            · rw [r3 (by decide) h]; exact addGt a b k l X Y ha hb hlb xd yd w na nb ia' ib' LN ga gb (c1 h) (Nat.le_of_lt h)
          · rw [r1 rfl]; exact addSt a b k l X Y ha hb hlb xd yd w na nb ia' ib' LN ga gb
    · rw [add_nan (.inr nb)]
      exact addN2 a b ha hb w na nb
  · rw [add_nan (.inl na)]
    exact addN1 a b ha hb w na
end Go.Proofs.YtoodbdjmbicaeaaGreatDoor
