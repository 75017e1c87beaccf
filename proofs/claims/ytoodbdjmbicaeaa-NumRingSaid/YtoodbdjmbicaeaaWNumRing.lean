/- NumRing: the walk. -/
import Derived.Test.YtoodbdjmbicaeaaKno
namespace Go.Proofs.Ytoodbdjmbicaeaa.numRing
open Go.RowKit
set_option maxRecDepth 8000
set_option maxHeartbeats 1000000
set_option linter.unusedVariables false

theorem of_wf64 {z : Int} (h : (Lit.int .u64 z).wf = true) : ∃ n : Nat, z = (n : Int) ∧ n < 2 ^ 64 := by
  have h1 : 0 ≤ z ∧ z ≤ 18446744073709551615 := by
    have := h; simp [Lit.wf, IntKind.min, IntKind.max, IntKind.signed, IntKind.bits] at this; omega
  exact ⟨z.toNat, by omega, by omega⟩


theorem nan (a b S T : Nat) (ha : a < 2 ^ 64) (hb : b < 2 ^ 64) (hT : T < 2 ^ 64) (hN : negV a < 2 ^ 64) (w : World)
    (f1 : opt (Ieee.double.sub a b) = S) (f2 : opt (Ieee.double.sub b a) = T) (f3 : opt (Ieee.double.add b a) = opt (Ieee.double.add a b)) (f4 : opt (Ieee.double.mul b a) = opt (Ieee.double.mul a b)) (f5 : opt (Ieee.double.add a (negV b)) = S) (f6 : negV T = S) (z1 : ((S : Int) == 0) = false) (na : nanW a = true) (n1 : opt (Ieee.double.add a b) = theNaN) (n2 : opt (Ieee.double.mul a b) = theNaN) (n3 : negV a = theNaN) :
    Kn 4 #[wd a, wd b] w (.bool true) := by
  go_enter Try.func4, Try.ntmps4
  go_wp2_with (first
    | (go_at_call 13; refine (kknown _).mono ?_; rintro e wk ⟨rfl, nk, rfl⟩)
    | (go_at_call 20; refine (kisnan _ _).mono ?_; rintro e wk ⟨rfl, rfl⟩)
    | (go_at_call 24; refine (kisinf (by assumption) _).mono ?_; rintro e wk ⟨rfl, rfl⟩)
    | (go_at_call 17; refine (kabs (by assumption) _).mono ?_; rintro e wk ⟨rfl, rfl⟩)
    | (go_at_call 19; refine (kneg (by assumption) _).mono ?_; rintro e wk ⟨rfl, rfl⟩)
    | (go_at_call 21; refine (knan _).mono ?_; rintro e wk ⟨rfl, rfl⟩)
    | (go_at_call 16; refine (ksqrt _ _).mono ?_; rintro e wk ⟨rfl, nk, rfl⟩)
    | (go_at_call 14; refine (kadd _ _ _).mono ?_; rintro e wk ⟨rfl, nk, rfl⟩)
    | (go_at_call 15; refine (ksub _ _ _).mono ?_; rintro e wk ⟨rfl, nk, rfl⟩)
    | (go_at_call 18; refine (kmul _ _ _).mono ?_; rintro e wk ⟨rfl, nk, rfl⟩)
    | (go_at_call 23; refine (kdiv _ _ _).mono ?_; rintro e wk ⟨rfl, nk, rfl⟩)
    | (go_at_call 33; refine (kfloor _ _).mono ?_; rintro e wk ⟨rfl, nk, rfl⟩)
    | (go_at_call 34; refine (kceil _ _).mono ?_; rintro e wk ⟨rfl, nk, rfl⟩)
    | (go_at_call 35; refine (ktrunc _ _).mono ?_; rintro e wk ⟨rfl, nk, rfl⟩)
    | (go_at_call 22; refine (kintL (n := 1) oneW (by decide +kernel) _).mono ?_; rintro e wk ⟨rfl, rfl⟩)
    | (go_at_call 12; refine (kcmp _ _ _).mono ?_; rintro e wk ⟨rfl, rfl⟩))
  go_ret
  exact ⟨rfl, _, rfl⟩

theorem infA (a b S T : Nat) (ha : a < 2 ^ 64) (hb : b < 2 ^ 64) (hT : T < 2 ^ 64) (hN : negV a < 2 ^ 64) (w : World)
    (f1 : opt (Ieee.double.sub a b) = S) (f2 : opt (Ieee.double.sub b a) = T) (f3 : opt (Ieee.double.add b a) = opt (Ieee.double.add a b)) (f4 : opt (Ieee.double.mul b a) = opt (Ieee.double.mul a b)) (f5 : opt (Ieee.double.add a (negV b)) = S) (f6 : negV T = S) (z1 : ((S : Int) == 0) = false) (na : nanW a = false) (o1 : negV (negV a) = a) (o2 : opt (Ieee.double.mul a oneW) = a) (o3 : opt (Ieee.double.div a oneW) = a) (o4 : opt (Ieee.double.sub a 0) = a) (ni : isInfW a = true) (s0 : opt (Ieee.double.sub a a) = theNaN) :
    Kn 4 #[wd a, wd b] w (.bool true) := by
  go_enter Try.func4, Try.ntmps4
  go_wp2_with (first
    | (go_at_call 13; refine (kknown _).mono ?_; rintro e wk ⟨rfl, nk, rfl⟩)
    | (go_at_call 20; refine (kisnan _ _).mono ?_; rintro e wk ⟨rfl, rfl⟩)
    | (go_at_call 24; refine (kisinf (by assumption) _).mono ?_; rintro e wk ⟨rfl, rfl⟩)
    | (go_at_call 17; refine (kabs (by assumption) _).mono ?_; rintro e wk ⟨rfl, rfl⟩)
    | (go_at_call 19; refine (kneg (by assumption) _).mono ?_; rintro e wk ⟨rfl, rfl⟩)
    | (go_at_call 21; refine (knan _).mono ?_; rintro e wk ⟨rfl, rfl⟩)
    | (go_at_call 16; refine (ksqrt _ _).mono ?_; rintro e wk ⟨rfl, nk, rfl⟩)
    | (go_at_call 14; refine (kadd _ _ _).mono ?_; rintro e wk ⟨rfl, nk, rfl⟩)
    | (go_at_call 15; refine (ksub _ _ _).mono ?_; rintro e wk ⟨rfl, nk, rfl⟩)
    | (go_at_call 18; refine (kmul _ _ _).mono ?_; rintro e wk ⟨rfl, nk, rfl⟩)
    | (go_at_call 23; refine (kdiv _ _ _).mono ?_; rintro e wk ⟨rfl, nk, rfl⟩)
    | (go_at_call 33; refine (kfloor _ _).mono ?_; rintro e wk ⟨rfl, nk, rfl⟩)
    | (go_at_call 34; refine (kceil _ _).mono ?_; rintro e wk ⟨rfl, nk, rfl⟩)
    | (go_at_call 35; refine (ktrunc _ _).mono ?_; rintro e wk ⟨rfl, nk, rfl⟩)
    | (go_at_call 22; refine (kintL (n := 1) oneW (by decide +kernel) _).mono ?_; rintro e wk ⟨rfl, rfl⟩)
    | (go_at_call 12; refine (kcmp _ _ _).mono ?_; rintro e wk ⟨rfl, rfl⟩))
  go_ret
  exact ⟨rfl, _, rfl⟩

theorem finAz (a b S T : Nat) (ha : a < 2 ^ 64) (hb : b < 2 ^ 64) (hT : T < 2 ^ 64) (hN : negV a < 2 ^ 64) (w : World)
    (f1 : opt (Ieee.double.sub a b) = S) (f2 : opt (Ieee.double.sub b a) = T) (f3 : opt (Ieee.double.add b a) = opt (Ieee.double.add a b)) (f4 : opt (Ieee.double.mul b a) = opt (Ieee.double.mul a b)) (f5 : opt (Ieee.double.add a (negV b)) = S) (f6 : negV T = S) (z1 : ((S : Int) == 0) = false) (na : nanW a = false) (o1 : negV (negV a) = a) (o2 : opt (Ieee.double.mul a oneW) = a) (o3 : opt (Ieee.double.div a oneW) = a) (o4 : opt (Ieee.double.sub a 0) = a) (ni : isInfW a = false) (s0 : opt (Ieee.double.sub a a) = 0) (c0 : cmpC a 0 = 0) :
    Kn 4 #[wd a, wd b] w (.bool true) := by
  go_enter Try.func4, Try.ntmps4
  go_wp2_with (first
    | (go_at_call 13; refine (kknown _).mono ?_; rintro e wk ⟨rfl, nk, rfl⟩)
    | (go_at_call 20; refine (kisnan _ _).mono ?_; rintro e wk ⟨rfl, rfl⟩)
    | (go_at_call 24; refine (kisinf (by assumption) _).mono ?_; rintro e wk ⟨rfl, rfl⟩)
    | (go_at_call 17; refine (kabs (by assumption) _).mono ?_; rintro e wk ⟨rfl, rfl⟩)
    | (go_at_call 19; refine (kneg (by assumption) _).mono ?_; rintro e wk ⟨rfl, rfl⟩)
    | (go_at_call 21; refine (knan _).mono ?_; rintro e wk ⟨rfl, rfl⟩)
    | (go_at_call 16; refine (ksqrt _ _).mono ?_; rintro e wk ⟨rfl, nk, rfl⟩)
    | (go_at_call 14; refine (kadd _ _ _).mono ?_; rintro e wk ⟨rfl, nk, rfl⟩)
    | (go_at_call 15; refine (ksub _ _ _).mono ?_; rintro e wk ⟨rfl, nk, rfl⟩)
    | (go_at_call 18; refine (kmul _ _ _).mono ?_; rintro e wk ⟨rfl, nk, rfl⟩)
    | (go_at_call 23; refine (kdiv _ _ _).mono ?_; rintro e wk ⟨rfl, nk, rfl⟩)
    | (go_at_call 33; refine (kfloor _ _).mono ?_; rintro e wk ⟨rfl, nk, rfl⟩)
    | (go_at_call 34; refine (kceil _ _).mono ?_; rintro e wk ⟨rfl, nk, rfl⟩)
    | (go_at_call 35; refine (ktrunc _ _).mono ?_; rintro e wk ⟨rfl, nk, rfl⟩)
    | (go_at_call 22; refine (kintL (n := 1) oneW (by decide +kernel) _).mono ?_; rintro e wk ⟨rfl, rfl⟩)
    | (go_at_call 12; refine (kcmp _ _ _).mono ?_; rintro e wk ⟨rfl, rfl⟩))
  go_ret
  exact ⟨rfl, _, rfl⟩

theorem finAp (a b S T : Nat) (ha : a < 2 ^ 64) (hb : b < 2 ^ 64) (hT : T < 2 ^ 64) (hN : negV a < 2 ^ 64) (w : World)
    (f1 : opt (Ieee.double.sub a b) = S) (f2 : opt (Ieee.double.sub b a) = T) (f3 : opt (Ieee.double.add b a) = opt (Ieee.double.add a b)) (f4 : opt (Ieee.double.mul b a) = opt (Ieee.double.mul a b)) (f5 : opt (Ieee.double.add a (negV b)) = S) (f6 : negV T = S) (z1 : ((S : Int) == 0) = false) (na : nanW a = false) (o1 : negV (negV a) = a) (o2 : opt (Ieee.double.mul a oneW) = a) (o3 : opt (Ieee.double.div a oneW) = a) (o4 : opt (Ieee.double.sub a 0) = a) (ni : isInfW a = false) (s0 : opt (Ieee.double.sub a a) = 0) (c0 : cmpC a 0 = 1) (d0 : opt (Ieee.double.div a a) = oneW) :
    Kn 4 #[wd a, wd b] w (.bool true) := by
  go_enter Try.func4, Try.ntmps4
  go_wp2_with (first
    | (go_at_call 13; refine (kknown _).mono ?_; rintro e wk ⟨rfl, nk, rfl⟩)
    | (go_at_call 20; refine (kisnan _ _).mono ?_; rintro e wk ⟨rfl, rfl⟩)
    | (go_at_call 24; refine (kisinf (by assumption) _).mono ?_; rintro e wk ⟨rfl, rfl⟩)
    | (go_at_call 17; refine (kabs (by assumption) _).mono ?_; rintro e wk ⟨rfl, rfl⟩)
    | (go_at_call 19; refine (kneg (by assumption) _).mono ?_; rintro e wk ⟨rfl, rfl⟩)
    | (go_at_call 21; refine (knan _).mono ?_; rintro e wk ⟨rfl, rfl⟩)
    | (go_at_call 16; refine (ksqrt _ _).mono ?_; rintro e wk ⟨rfl, nk, rfl⟩)
    | (go_at_call 14; refine (kadd _ _ _).mono ?_; rintro e wk ⟨rfl, nk, rfl⟩)
    | (go_at_call 15; refine (ksub _ _ _).mono ?_; rintro e wk ⟨rfl, nk, rfl⟩)
    | (go_at_call 18; refine (kmul _ _ _).mono ?_; rintro e wk ⟨rfl, nk, rfl⟩)
    | (go_at_call 23; refine (kdiv _ _ _).mono ?_; rintro e wk ⟨rfl, nk, rfl⟩)
    | (go_at_call 33; refine (kfloor _ _).mono ?_; rintro e wk ⟨rfl, nk, rfl⟩)
    | (go_at_call 34; refine (kceil _ _).mono ?_; rintro e wk ⟨rfl, nk, rfl⟩)
    | (go_at_call 35; refine (ktrunc _ _).mono ?_; rintro e wk ⟨rfl, nk, rfl⟩)
    | (go_at_call 22; refine (kintL (n := 1) oneW (by decide +kernel) _).mono ?_; rintro e wk ⟨rfl, rfl⟩)
    | (go_at_call 12; refine (kcmp _ _ _).mono ?_; rintro e wk ⟨rfl, rfl⟩))
  go_ret
  exact ⟨rfl, _, rfl⟩

theorem finAm (a b S T : Nat) (ha : a < 2 ^ 64) (hb : b < 2 ^ 64) (hT : T < 2 ^ 64) (hN : negV a < 2 ^ 64) (w : World)
    (f1 : opt (Ieee.double.sub a b) = S) (f2 : opt (Ieee.double.sub b a) = T) (f3 : opt (Ieee.double.add b a) = opt (Ieee.double.add a b)) (f4 : opt (Ieee.double.mul b a) = opt (Ieee.double.mul a b)) (f5 : opt (Ieee.double.add a (negV b)) = S) (f6 : negV T = S) (z1 : ((S : Int) == 0) = false) (na : nanW a = false) (o1 : negV (negV a) = a) (o2 : opt (Ieee.double.mul a oneW) = a) (o3 : opt (Ieee.double.div a oneW) = a) (o4 : opt (Ieee.double.sub a 0) = a) (ni : isInfW a = false) (s0 : opt (Ieee.double.sub a a) = 0) (c0 : cmpC a 0 = -1) (d0 : opt (Ieee.double.div a a) = oneW) :
    Kn 4 #[wd a, wd b] w (.bool true) := by
  go_enter Try.func4, Try.ntmps4
  go_wp2_with (first
    | (go_at_call 13; refine (kknown _).mono ?_; rintro e wk ⟨rfl, nk, rfl⟩)
    | (go_at_call 20; refine (kisnan _ _).mono ?_; rintro e wk ⟨rfl, rfl⟩)
    | (go_at_call 24; refine (kisinf (by assumption) _).mono ?_; rintro e wk ⟨rfl, rfl⟩)
    | (go_at_call 17; refine (kabs (by assumption) _).mono ?_; rintro e wk ⟨rfl, rfl⟩)
    | (go_at_call 19; refine (kneg (by assumption) _).mono ?_; rintro e wk ⟨rfl, rfl⟩)
    | (go_at_call 21; refine (knan _).mono ?_; rintro e wk ⟨rfl, rfl⟩)
    | (go_at_call 16; refine (ksqrt _ _).mono ?_; rintro e wk ⟨rfl, nk, rfl⟩)
    | (go_at_call 14; refine (kadd _ _ _).mono ?_; rintro e wk ⟨rfl, nk, rfl⟩)
    | (go_at_call 15; refine (ksub _ _ _).mono ?_; rintro e wk ⟨rfl, nk, rfl⟩)
    | (go_at_call 18; refine (kmul _ _ _).mono ?_; rintro e wk ⟨rfl, nk, rfl⟩)
    | (go_at_call 23; refine (kdiv _ _ _).mono ?_; rintro e wk ⟨rfl, nk, rfl⟩)
    | (go_at_call 33; refine (kfloor _ _).mono ?_; rintro e wk ⟨rfl, nk, rfl⟩)
    | (go_at_call 34; refine (kceil _ _).mono ?_; rintro e wk ⟨rfl, nk, rfl⟩)
    | (go_at_call 35; refine (ktrunc _ _).mono ?_; rintro e wk ⟨rfl, nk, rfl⟩)
    | (go_at_call 22; refine (kintL (n := 1) oneW (by decide +kernel) _).mono ?_; rintro e wk ⟨rfl, rfl⟩)
    | (go_at_call 12; refine (kcmp _ _ _).mono ?_; rintro e wk ⟨rfl, rfl⟩))
  go_ret
  exact ⟨rfl, _, rfl⟩

theorem infB (a b S T : Nat) (ha : a < 2 ^ 64) (hb : b < 2 ^ 64) (hT : T < 2 ^ 64) (hN : negV a < 2 ^ 64) (w : World)
    (f1 : opt (Ieee.double.sub a b) = S) (f2 : opt (Ieee.double.sub b a) = T) (f3 : opt (Ieee.double.add b a) = opt (Ieee.double.add a b)) (f4 : opt (Ieee.double.mul b a) = opt (Ieee.double.mul a b)) (f5 : opt (Ieee.double.add a (negV b)) = S) (f6 : negV T = S) (z1 : ((S : Int) == 0) = true) (z2 : ((T : Int) == 0) = false) (na : nanW a = false) (o1 : negV (negV a) = a) (o2 : opt (Ieee.double.mul a oneW) = a) (o3 : opt (Ieee.double.div a oneW) = a) (o4 : opt (Ieee.double.sub a 0) = a) (ni : isInfW a = true) (s0 : opt (Ieee.double.sub a a) = theNaN) :
    Kn 4 #[wd a, wd b] w (.bool true) := by
  go_enter Try.func4, Try.ntmps4
  go_wp2_with (first
    | (go_at_call 13; refine (kknown _).mono ?_; rintro e wk ⟨rfl, nk, rfl⟩)
    | (go_at_call 20; refine (kisnan _ _).mono ?_; rintro e wk ⟨rfl, rfl⟩)
    | (go_at_call 24; refine (kisinf (by assumption) _).mono ?_; rintro e wk ⟨rfl, rfl⟩)
    | (go_at_call 17; refine (kabs (by assumption) _).mono ?_; rintro e wk ⟨rfl, rfl⟩)
    | (go_at_call 19; refine (kneg (by assumption) _).mono ?_; rintro e wk ⟨rfl, rfl⟩)
    | (go_at_call 21; refine (knan _).mono ?_; rintro e wk ⟨rfl, rfl⟩)
    | (go_at_call 16; refine (ksqrt _ _).mono ?_; rintro e wk ⟨rfl, nk, rfl⟩)
    | (go_at_call 14; refine (kadd _ _ _).mono ?_; rintro e wk ⟨rfl, nk, rfl⟩)
    | (go_at_call 15; refine (ksub _ _ _).mono ?_; rintro e wk ⟨rfl, nk, rfl⟩)
    | (go_at_call 18; refine (kmul _ _ _).mono ?_; rintro e wk ⟨rfl, nk, rfl⟩)
    | (go_at_call 23; refine (kdiv _ _ _).mono ?_; rintro e wk ⟨rfl, nk, rfl⟩)
    | (go_at_call 33; refine (kfloor _ _).mono ?_; rintro e wk ⟨rfl, nk, rfl⟩)
    | (go_at_call 34; refine (kceil _ _).mono ?_; rintro e wk ⟨rfl, nk, rfl⟩)
    | (go_at_call 35; refine (ktrunc _ _).mono ?_; rintro e wk ⟨rfl, nk, rfl⟩)
    | (go_at_call 22; refine (kintL (n := 1) oneW (by decide +kernel) _).mono ?_; rintro e wk ⟨rfl, rfl⟩)
    | (go_at_call 12; refine (kcmp _ _ _).mono ?_; rintro e wk ⟨rfl, rfl⟩))
  go_ret
  exact ⟨rfl, _, rfl⟩

theorem finBz (a b S T : Nat) (ha : a < 2 ^ 64) (hb : b < 2 ^ 64) (hT : T < 2 ^ 64) (hN : negV a < 2 ^ 64) (w : World)
    (f1 : opt (Ieee.double.sub a b) = S) (f2 : opt (Ieee.double.sub b a) = T) (f3 : opt (Ieee.double.add b a) = opt (Ieee.double.add a b)) (f4 : opt (Ieee.double.mul b a) = opt (Ieee.double.mul a b)) (f5 : opt (Ieee.double.add a (negV b)) = S) (f6 : negV T = S) (z1 : ((S : Int) == 0) = true) (z2 : ((T : Int) == 0) = false) (na : nanW a = false) (o1 : negV (negV a) = a) (o2 : opt (Ieee.double.mul a oneW) = a) (o3 : opt (Ieee.double.div a oneW) = a) (o4 : opt (Ieee.double.sub a 0) = a) (ni : isInfW a = false) (s0 : opt (Ieee.double.sub a a) = 0) (c0 : cmpC a 0 = 0) :
    Kn 4 #[wd a, wd b] w (.bool true) := by
  go_enter Try.func4, Try.ntmps4
  go_wp2_with (first
    | (go_at_call 13; refine (kknown _).mono ?_; rintro e wk ⟨rfl, nk, rfl⟩)
    | (go_at_call 20; refine (kisnan _ _).mono ?_; rintro e wk ⟨rfl, rfl⟩)
    | (go_at_call 24; refine (kisinf (by assumption) _).mono ?_; rintro e wk ⟨rfl, rfl⟩)
    | (go_at_call 17; refine (kabs (by assumption) _).mono ?_; rintro e wk ⟨rfl, rfl⟩)
    | (go_at_call 19; refine (kneg (by assumption) _).mono ?_; rintro e wk ⟨rfl, rfl⟩)
    | (go_at_call 21; refine (knan _).mono ?_; rintro e wk ⟨rfl, rfl⟩)
    | (go_at_call 16; refine (ksqrt _ _).mono ?_; rintro e wk ⟨rfl, nk, rfl⟩)
    | (go_at_call 14; refine (kadd _ _ _).mono ?_; rintro e wk ⟨rfl, nk, rfl⟩)
    | (go_at_call 15; refine (ksub _ _ _).mono ?_; rintro e wk ⟨rfl, nk, rfl⟩)
    | (go_at_call 18; refine (kmul _ _ _).mono ?_; rintro e wk ⟨rfl, nk, rfl⟩)
    | (go_at_call 23; refine (kdiv _ _ _).mono ?_; rintro e wk ⟨rfl, nk, rfl⟩)
    | (go_at_call 33; refine (kfloor _ _).mono ?_; rintro e wk ⟨rfl, nk, rfl⟩)
    | (go_at_call 34; refine (kceil _ _).mono ?_; rintro e wk ⟨rfl, nk, rfl⟩)
    | (go_at_call 35; refine (ktrunc _ _).mono ?_; rintro e wk ⟨rfl, nk, rfl⟩)
    | (go_at_call 22; refine (kintL (n := 1) oneW (by decide +kernel) _).mono ?_; rintro e wk ⟨rfl, rfl⟩)
    | (go_at_call 12; refine (kcmp _ _ _).mono ?_; rintro e wk ⟨rfl, rfl⟩))
  go_ret
  exact ⟨rfl, _, rfl⟩

theorem finBp (a b S T : Nat) (ha : a < 2 ^ 64) (hb : b < 2 ^ 64) (hT : T < 2 ^ 64) (hN : negV a < 2 ^ 64) (w : World)
    (f1 : opt (Ieee.double.sub a b) = S) (f2 : opt (Ieee.double.sub b a) = T) (f3 : opt (Ieee.double.add b a) = opt (Ieee.double.add a b)) (f4 : opt (Ieee.double.mul b a) = opt (Ieee.double.mul a b)) (f5 : opt (Ieee.double.add a (negV b)) = S) (f6 : negV T = S) (z1 : ((S : Int) == 0) = true) (z2 : ((T : Int) == 0) = false) (na : nanW a = false) (o1 : negV (negV a) = a) (o2 : opt (Ieee.double.mul a oneW) = a) (o3 : opt (Ieee.double.div a oneW) = a) (o4 : opt (Ieee.double.sub a 0) = a) (ni : isInfW a = false) (s0 : opt (Ieee.double.sub a a) = 0) (c0 : cmpC a 0 = 1) (d0 : opt (Ieee.double.div a a) = oneW) :
    Kn 4 #[wd a, wd b] w (.bool true) := by
  go_enter Try.func4, Try.ntmps4
  go_wp2_with (first
    | (go_at_call 13; refine (kknown _).mono ?_; rintro e wk ⟨rfl, nk, rfl⟩)
    | (go_at_call 20; refine (kisnan _ _).mono ?_; rintro e wk ⟨rfl, rfl⟩)
    | (go_at_call 24; refine (kisinf (by assumption) _).mono ?_; rintro e wk ⟨rfl, rfl⟩)
    | (go_at_call 17; refine (kabs (by assumption) _).mono ?_; rintro e wk ⟨rfl, rfl⟩)
    | (go_at_call 19; refine (kneg (by assumption) _).mono ?_; rintro e wk ⟨rfl, rfl⟩)
    | (go_at_call 21; refine (knan _).mono ?_; rintro e wk ⟨rfl, rfl⟩)
    | (go_at_call 16; refine (ksqrt _ _).mono ?_; rintro e wk ⟨rfl, nk, rfl⟩)
    | (go_at_call 14; refine (kadd _ _ _).mono ?_; rintro e wk ⟨rfl, nk, rfl⟩)
    | (go_at_call 15; refine (ksub _ _ _).mono ?_; rintro e wk ⟨rfl, nk, rfl⟩)
    | (go_at_call 18; refine (kmul _ _ _).mono ?_; rintro e wk ⟨rfl, nk, rfl⟩)
    | (go_at_call 23; refine (kdiv _ _ _).mono ?_; rintro e wk ⟨rfl, nk, rfl⟩)
    | (go_at_call 33; refine (kfloor _ _).mono ?_; rintro e wk ⟨rfl, nk, rfl⟩)
    | (go_at_call 34; refine (kceil _ _).mono ?_; rintro e wk ⟨rfl, nk, rfl⟩)
    | (go_at_call 35; refine (ktrunc _ _).mono ?_; rintro e wk ⟨rfl, nk, rfl⟩)
    | (go_at_call 22; refine (kintL (n := 1) oneW (by decide +kernel) _).mono ?_; rintro e wk ⟨rfl, rfl⟩)
    | (go_at_call 12; refine (kcmp _ _ _).mono ?_; rintro e wk ⟨rfl, rfl⟩))
  go_ret
  exact ⟨rfl, _, rfl⟩

theorem finBm (a b S T : Nat) (ha : a < 2 ^ 64) (hb : b < 2 ^ 64) (hT : T < 2 ^ 64) (hN : negV a < 2 ^ 64) (w : World)
    (f1 : opt (Ieee.double.sub a b) = S) (f2 : opt (Ieee.double.sub b a) = T) (f3 : opt (Ieee.double.add b a) = opt (Ieee.double.add a b)) (f4 : opt (Ieee.double.mul b a) = opt (Ieee.double.mul a b)) (f5 : opt (Ieee.double.add a (negV b)) = S) (f6 : negV T = S) (z1 : ((S : Int) == 0) = true) (z2 : ((T : Int) == 0) = false) (na : nanW a = false) (o1 : negV (negV a) = a) (o2 : opt (Ieee.double.mul a oneW) = a) (o3 : opt (Ieee.double.div a oneW) = a) (o4 : opt (Ieee.double.sub a 0) = a) (ni : isInfW a = false) (s0 : opt (Ieee.double.sub a a) = 0) (c0 : cmpC a 0 = -1) (d0 : opt (Ieee.double.div a a) = oneW) :
    Kn 4 #[wd a, wd b] w (.bool true) := by
  go_enter Try.func4, Try.ntmps4
  go_wp2_with (first
    | (go_at_call 13; refine (kknown _).mono ?_; rintro e wk ⟨rfl, nk, rfl⟩)
    | (go_at_call 20; refine (kisnan _ _).mono ?_; rintro e wk ⟨rfl, rfl⟩)
    | (go_at_call 24; refine (kisinf (by assumption) _).mono ?_; rintro e wk ⟨rfl, rfl⟩)
    | (go_at_call 17; refine (kabs (by assumption) _).mono ?_; rintro e wk ⟨rfl, rfl⟩)
    | (go_at_call 19; refine (kneg (by assumption) _).mono ?_; rintro e wk ⟨rfl, rfl⟩)
    | (go_at_call 21; refine (knan _).mono ?_; rintro e wk ⟨rfl, rfl⟩)
    | (go_at_call 16; refine (ksqrt _ _).mono ?_; rintro e wk ⟨rfl, nk, rfl⟩)
    | (go_at_call 14; refine (kadd _ _ _).mono ?_; rintro e wk ⟨rfl, nk, rfl⟩)
    | (go_at_call 15; refine (ksub _ _ _).mono ?_; rintro e wk ⟨rfl, nk, rfl⟩)
    | (go_at_call 18; refine (kmul _ _ _).mono ?_; rintro e wk ⟨rfl, nk, rfl⟩)
    | (go_at_call 23; refine (kdiv _ _ _).mono ?_; rintro e wk ⟨rfl, nk, rfl⟩)
    | (go_at_call 33; refine (kfloor _ _).mono ?_; rintro e wk ⟨rfl, nk, rfl⟩)
    | (go_at_call 34; refine (kceil _ _).mono ?_; rintro e wk ⟨rfl, nk, rfl⟩)
    | (go_at_call 35; refine (ktrunc _ _).mono ?_; rintro e wk ⟨rfl, nk, rfl⟩)
    | (go_at_call 22; refine (kintL (n := 1) oneW (by decide +kernel) _).mono ?_; rintro e wk ⟨rfl, rfl⟩)
    | (go_at_call 12; refine (kcmp _ _ _).mono ?_; rintro e wk ⟨rfl, rfl⟩))
  go_ret
  exact ⟨rfl, _, rfl⟩

theorem infC (a b S T : Nat) (ha : a < 2 ^ 64) (hb : b < 2 ^ 64) (hT : T < 2 ^ 64) (hN : negV a < 2 ^ 64) (w : World)
    (f1 : opt (Ieee.double.sub a b) = S) (f2 : opt (Ieee.double.sub b a) = T) (f3 : opt (Ieee.double.add b a) = opt (Ieee.double.add a b)) (f4 : opt (Ieee.double.mul b a) = opt (Ieee.double.mul a b)) (f5 : opt (Ieee.double.add a (negV b)) = S) (f6 : ((S : Int) == (negV T : Int)) = false) (z1 : ((S : Int) == 0) = true) (z2 : ((T : Int) == 0) = true) (na : nanW a = false) (o1 : negV (negV a) = a) (o2 : opt (Ieee.double.mul a oneW) = a) (o3 : opt (Ieee.double.div a oneW) = a) (o4 : opt (Ieee.double.sub a 0) = a) (ni : isInfW a = true) (s0 : opt (Ieee.double.sub a a) = theNaN) :
    Kn 4 #[wd a, wd b] w (.bool true) := by
  go_enter Try.func4, Try.ntmps4
  go_wp2_with (first
    | (go_at_call 13; refine (kknown _).mono ?_; rintro e wk ⟨rfl, nk, rfl⟩)
    | (go_at_call 20; refine (kisnan _ _).mono ?_; rintro e wk ⟨rfl, rfl⟩)
    | (go_at_call 24; refine (kisinf (by assumption) _).mono ?_; rintro e wk ⟨rfl, rfl⟩)
    | (go_at_call 17; refine (kabs (by assumption) _).mono ?_; rintro e wk ⟨rfl, rfl⟩)
    | (go_at_call 19; refine (kneg (by assumption) _).mono ?_; rintro e wk ⟨rfl, rfl⟩)
    | (go_at_call 21; refine (knan _).mono ?_; rintro e wk ⟨rfl, rfl⟩)
    | (go_at_call 16; refine (ksqrt _ _).mono ?_; rintro e wk ⟨rfl, nk, rfl⟩)
    | (go_at_call 14; refine (kadd _ _ _).mono ?_; rintro e wk ⟨rfl, nk, rfl⟩)
    | (go_at_call 15; refine (ksub _ _ _).mono ?_; rintro e wk ⟨rfl, nk, rfl⟩)
    | (go_at_call 18; refine (kmul _ _ _).mono ?_; rintro e wk ⟨rfl, nk, rfl⟩)
    | (go_at_call 23; refine (kdiv _ _ _).mono ?_; rintro e wk ⟨rfl, nk, rfl⟩)
    | (go_at_call 33; refine (kfloor _ _).mono ?_; rintro e wk ⟨rfl, nk, rfl⟩)
    | (go_at_call 34; refine (kceil _ _).mono ?_; rintro e wk ⟨rfl, nk, rfl⟩)
    | (go_at_call 35; refine (ktrunc _ _).mono ?_; rintro e wk ⟨rfl, nk, rfl⟩)
    | (go_at_call 22; refine (kintL (n := 1) oneW (by decide +kernel) _).mono ?_; rintro e wk ⟨rfl, rfl⟩)
    | (go_at_call 12; refine (kcmp _ _ _).mono ?_; rintro e wk ⟨rfl, rfl⟩))
  go_ret
  exact ⟨rfl, _, rfl⟩

theorem finCz (a b S T : Nat) (ha : a < 2 ^ 64) (hb : b < 2 ^ 64) (hT : T < 2 ^ 64) (hN : negV a < 2 ^ 64) (w : World)
    (f1 : opt (Ieee.double.sub a b) = S) (f2 : opt (Ieee.double.sub b a) = T) (f3 : opt (Ieee.double.add b a) = opt (Ieee.double.add a b)) (f4 : opt (Ieee.double.mul b a) = opt (Ieee.double.mul a b)) (f5 : opt (Ieee.double.add a (negV b)) = S) (f6 : ((S : Int) == (negV T : Int)) = false) (z1 : ((S : Int) == 0) = true) (z2 : ((T : Int) == 0) = true) (na : nanW a = false) (o1 : negV (negV a) = a) (o2 : opt (Ieee.double.mul a oneW) = a) (o3 : opt (Ieee.double.div a oneW) = a) (o4 : opt (Ieee.double.sub a 0) = a) (ni : isInfW a = false) (s0 : opt (Ieee.double.sub a a) = 0) (c0 : cmpC a 0 = 0) :
    Kn 4 #[wd a, wd b] w (.bool true) := by
  go_enter Try.func4, Try.ntmps4
  go_wp2_with (first
    | (go_at_call 13; refine (kknown _).mono ?_; rintro e wk ⟨rfl, nk, rfl⟩)
    | (go_at_call 20; refine (kisnan _ _).mono ?_; rintro e wk ⟨rfl, rfl⟩)
    | (go_at_call 24; refine (kisinf (by assumption) _).mono ?_; rintro e wk ⟨rfl, rfl⟩)
    | (go_at_call 17; refine (kabs (by assumption) _).mono ?_; rintro e wk ⟨rfl, rfl⟩)
    | (go_at_call 19; refine (kneg (by assumption) _).mono ?_; rintro e wk ⟨rfl, rfl⟩)
    | (go_at_call 21; refine (knan _).mono ?_; rintro e wk ⟨rfl, rfl⟩)
    | (go_at_call 16; refine (ksqrt _ _).mono ?_; rintro e wk ⟨rfl, nk, rfl⟩)
    | (go_at_call 14; refine (kadd _ _ _).mono ?_; rintro e wk ⟨rfl, nk, rfl⟩)
    | (go_at_call 15; refine (ksub _ _ _).mono ?_; rintro e wk ⟨rfl, nk, rfl⟩)
    | (go_at_call 18; refine (kmul _ _ _).mono ?_; rintro e wk ⟨rfl, nk, rfl⟩)
    | (go_at_call 23; refine (kdiv _ _ _).mono ?_; rintro e wk ⟨rfl, nk, rfl⟩)
    | (go_at_call 33; refine (kfloor _ _).mono ?_; rintro e wk ⟨rfl, nk, rfl⟩)
    | (go_at_call 34; refine (kceil _ _).mono ?_; rintro e wk ⟨rfl, nk, rfl⟩)
    | (go_at_call 35; refine (ktrunc _ _).mono ?_; rintro e wk ⟨rfl, nk, rfl⟩)
    | (go_at_call 22; refine (kintL (n := 1) oneW (by decide +kernel) _).mono ?_; rintro e wk ⟨rfl, rfl⟩)
    | (go_at_call 12; refine (kcmp _ _ _).mono ?_; rintro e wk ⟨rfl, rfl⟩))
  go_ret
  exact ⟨rfl, _, rfl⟩

theorem finCp (a b S T : Nat) (ha : a < 2 ^ 64) (hb : b < 2 ^ 64) (hT : T < 2 ^ 64) (hN : negV a < 2 ^ 64) (w : World)
    (f1 : opt (Ieee.double.sub a b) = S) (f2 : opt (Ieee.double.sub b a) = T) (f3 : opt (Ieee.double.add b a) = opt (Ieee.double.add a b)) (f4 : opt (Ieee.double.mul b a) = opt (Ieee.double.mul a b)) (f5 : opt (Ieee.double.add a (negV b)) = S) (f6 : ((S : Int) == (negV T : Int)) = false) (z1 : ((S : Int) == 0) = true) (z2 : ((T : Int) == 0) = true) (na : nanW a = false) (o1 : negV (negV a) = a) (o2 : opt (Ieee.double.mul a oneW) = a) (o3 : opt (Ieee.double.div a oneW) = a) (o4 : opt (Ieee.double.sub a 0) = a) (ni : isInfW a = false) (s0 : opt (Ieee.double.sub a a) = 0) (c0 : cmpC a 0 = 1) (d0 : opt (Ieee.double.div a a) = oneW) :
    Kn 4 #[wd a, wd b] w (.bool true) := by
  go_enter Try.func4, Try.ntmps4
  go_wp2_with (first
    | (go_at_call 13; refine (kknown _).mono ?_; rintro e wk ⟨rfl, nk, rfl⟩)
    | (go_at_call 20; refine (kisnan _ _).mono ?_; rintro e wk ⟨rfl, rfl⟩)
    | (go_at_call 24; refine (kisinf (by assumption) _).mono ?_; rintro e wk ⟨rfl, rfl⟩)
    | (go_at_call 17; refine (kabs (by assumption) _).mono ?_; rintro e wk ⟨rfl, rfl⟩)
    | (go_at_call 19; refine (kneg (by assumption) _).mono ?_; rintro e wk ⟨rfl, rfl⟩)
    | (go_at_call 21; refine (knan _).mono ?_; rintro e wk ⟨rfl, rfl⟩)
    | (go_at_call 16; refine (ksqrt _ _).mono ?_; rintro e wk ⟨rfl, nk, rfl⟩)
    | (go_at_call 14; refine (kadd _ _ _).mono ?_; rintro e wk ⟨rfl, nk, rfl⟩)
    | (go_at_call 15; refine (ksub _ _ _).mono ?_; rintro e wk ⟨rfl, nk, rfl⟩)
    | (go_at_call 18; refine (kmul _ _ _).mono ?_; rintro e wk ⟨rfl, nk, rfl⟩)
    | (go_at_call 23; refine (kdiv _ _ _).mono ?_; rintro e wk ⟨rfl, nk, rfl⟩)
    | (go_at_call 33; refine (kfloor _ _).mono ?_; rintro e wk ⟨rfl, nk, rfl⟩)
    | (go_at_call 34; refine (kceil _ _).mono ?_; rintro e wk ⟨rfl, nk, rfl⟩)
    | (go_at_call 35; refine (ktrunc _ _).mono ?_; rintro e wk ⟨rfl, nk, rfl⟩)
    | (go_at_call 22; refine (kintL (n := 1) oneW (by decide +kernel) _).mono ?_; rintro e wk ⟨rfl, rfl⟩)
    | (go_at_call 12; refine (kcmp _ _ _).mono ?_; rintro e wk ⟨rfl, rfl⟩))
  go_ret
  exact ⟨rfl, _, rfl⟩

theorem finCm (a b S T : Nat) (ha : a < 2 ^ 64) (hb : b < 2 ^ 64) (hT : T < 2 ^ 64) (hN : negV a < 2 ^ 64) (w : World)
    (f1 : opt (Ieee.double.sub a b) = S) (f2 : opt (Ieee.double.sub b a) = T) (f3 : opt (Ieee.double.add b a) = opt (Ieee.double.add a b)) (f4 : opt (Ieee.double.mul b a) = opt (Ieee.double.mul a b)) (f5 : opt (Ieee.double.add a (negV b)) = S) (f6 : ((S : Int) == (negV T : Int)) = false) (z1 : ((S : Int) == 0) = true) (z2 : ((T : Int) == 0) = true) (na : nanW a = false) (o1 : negV (negV a) = a) (o2 : opt (Ieee.double.mul a oneW) = a) (o3 : opt (Ieee.double.div a oneW) = a) (o4 : opt (Ieee.double.sub a 0) = a) (ni : isInfW a = false) (s0 : opt (Ieee.double.sub a a) = 0) (c0 : cmpC a 0 = -1) (d0 : opt (Ieee.double.div a a) = oneW) :
    Kn 4 #[wd a, wd b] w (.bool true) := by
  go_enter Try.func4, Try.ntmps4
  go_wp2_with (first
    | (go_at_call 13; refine (kknown _).mono ?_; rintro e wk ⟨rfl, nk, rfl⟩)
    | (go_at_call 20; refine (kisnan _ _).mono ?_; rintro e wk ⟨rfl, rfl⟩)
    | (go_at_call 24; refine (kisinf (by assumption) _).mono ?_; rintro e wk ⟨rfl, rfl⟩)
    | (go_at_call 17; refine (kabs (by assumption) _).mono ?_; rintro e wk ⟨rfl, rfl⟩)
    | (go_at_call 19; refine (kneg (by assumption) _).mono ?_; rintro e wk ⟨rfl, rfl⟩)
    | (go_at_call 21; refine (knan _).mono ?_; rintro e wk ⟨rfl, rfl⟩)
    | (go_at_call 16; refine (ksqrt _ _).mono ?_; rintro e wk ⟨rfl, nk, rfl⟩)
    | (go_at_call 14; refine (kadd _ _ _).mono ?_; rintro e wk ⟨rfl, nk, rfl⟩)
    | (go_at_call 15; refine (ksub _ _ _).mono ?_; rintro e wk ⟨rfl, nk, rfl⟩)
    | (go_at_call 18; refine (kmul _ _ _).mono ?_; rintro e wk ⟨rfl, nk, rfl⟩)
    | (go_at_call 23; refine (kdiv _ _ _).mono ?_; rintro e wk ⟨rfl, nk, rfl⟩)
    | (go_at_call 33; refine (kfloor _ _).mono ?_; rintro e wk ⟨rfl, nk, rfl⟩)
    | (go_at_call 34; refine (kceil _ _).mono ?_; rintro e wk ⟨rfl, nk, rfl⟩)
    | (go_at_call 35; refine (ktrunc _ _).mono ?_; rintro e wk ⟨rfl, nk, rfl⟩)
    | (go_at_call 22; refine (kintL (n := 1) oneW (by decide +kernel) _).mono ?_; rintro e wk ⟨rfl, rfl⟩)
    | (go_at_call 12; refine (kcmp _ _ _).mono ?_; rintro e wk ⟨rfl, rfl⟩))
  go_ret
  exact ⟨rfl, _, rfl⟩

theorem cmp_vals (x y : Nat) : cmpC x y = 0 ∨ cmpC x y = 1 ∨ cmpC x y = -1 := by
  unfold cmpC
  split
  · exact .inr (.inr rfl)
  · exact .inr (.inl rfl)
  · exact .inl rfl
theorem opt_lt {o : Option Nat} (h : ∀ r, o = some r → r < 2 ^ 64) : opt o < 2 ^ 64 := by
  cases o with
  | none => exact theNaN_lt
  | some r =>
    show bitsW r < 2 ^ 64
    unfold bitsW
    split
    · exact theNaN_lt
    · exact h r rfl
theorem negV_lt {a : Nat} (ha : a < 2 ^ 64) : negV a < 2 ^ 64 := by
  unfold negV bitsW
  split
  · exact theNaN_lt
  · exact flip_lt ha
theorem walkN (a b : Nat) (ha : a < 2 ^ 64) (hb : b < 2 ^ 64) (w : World) : Kn 4 #[wd a, wd b] w (.bool true) := by
  obtain ⟨S, f1⟩ : ∃ S, opt (Ieee.double.sub a b) = S := ⟨_, rfl⟩
  obtain ⟨T, f2⟩ : ∃ T, opt (Ieee.double.sub b a) = T := ⟨_, rfl⟩
  have f3 : opt (Ieee.double.add b a) = opt (Ieee.double.add a b) := by rw [add_comm']
  have f4 : opt (Ieee.double.mul b a) = opt (Ieee.double.mul a b) := by rw [mul_comm']
  have f5 : opt (Ieee.double.add a (negV b)) = S := by rw [← f1, sub_neg hb]
  have hT : T < 2 ^ 64 := by rw [← f2]; exact opt_lt fun r h => Ieee.double.sub_lt h
  have hN := negV_lt ha
  have hq : ¬ (S = 0 ∧ T = 0) → negV T = S := by
    intro h
    rw [← f1, ← f2] at h ⊢
    exact (sub_turn ha hb h).symm
  cases na : nanW a
  · have o1 := negNeg ha na
    have o2 := mul_one' ha na
    have o3 := div_one' ha na
    have o4 := sub_nought ha na
    have hf := nan_false na
    by_cases hi : rung a = infR
    · have ni : isInfW a = true := by unfold isInfW; rw [hi]; decide
      have s0 := sub_inf ha hi
      by_cases z1 : S = 0
      · by_cases z2 : T = 0
        · exact infC a b S T ha hb hT hN w f1 f2 f3 f4 f5 (by rw [z1, z2]; decide) (by rw [z1]; rfl) (by rw [z2]; rfl) na o1 o2 o3 o4 ni s0
        · exact infB a b S T ha hb hT hN w f1 f2 f3 f4 f5 (hq fun h => z2 h.2) (by rw [z1]; rfl) (by simpa using z2) na o1 o2 o3 o4 ni s0
      · exact infA a b S T ha hb hT hN w f1 f2 f3 f4 f5 (hq fun h => z1 h.1) (by simpa using z1) na o1 o2 o3 o4 ni s0
    · have ni : isInfW a = false := by unfold isInfW; simpa using hi
      have hff : rung a < infR := by omega
      have s0 := sub_self ha hff
      have d0 : cmpC a 0 ≠ 0 → opt (Ieee.double.div a a) = oneW := fun h => div_self' hff (fun h2 => h (by
        rw [(cmp_not na (by decide)).1, h2, show ival 0 = 0 by decide]; rfl))
      rcases cmp_vals a 0 with c0 | c0 | c0
      · by_cases z1 : S = 0
        · by_cases z2 : T = 0
          · exact finCz a b S T ha hb hT hN w f1 f2 f3 f4 f5 (by rw [z1, z2]; decide) (by rw [z1]; rfl) (by rw [z2]; rfl) na o1 o2 o3 o4 ni s0 c0
          · exact finBz a b S T ha hb hT hN w f1 f2 f3 f4 f5 (hq fun h => z2 h.2) (by rw [z1]; rfl) (by simpa using z2) na o1 o2 o3 o4 ni s0 c0
        · exact finAz a b S T ha hb hT hN w f1 f2 f3 f4 f5 (hq fun h => z1 h.1) (by simpa using z1) na o1 o2 o3 o4 ni s0 c0
      · by_cases z1 : S = 0
        · by_cases z2 : T = 0
          · exact finCp a b S T ha hb hT hN w f1 f2 f3 f4 f5 (by rw [z1, z2]; decide) (by rw [z1]; rfl) (by rw [z2]; rfl) na o1 o2 o3 o4 ni s0 c0 (d0 (by rw [c0]; decide))
          · exact finBp a b S T ha hb hT hN w f1 f2 f3 f4 f5 (hq fun h => z2 h.2) (by rw [z1]; rfl) (by simpa using z2) na o1 o2 o3 o4 ni s0 c0 (d0 (by rw [c0]; decide))
        · exact finAp a b S T ha hb hT hN w f1 f2 f3 f4 f5 (hq fun h => z1 h.1) (by simpa using z1) na o1 o2 o3 o4 ni s0 c0 (d0 (by rw [c0]; decide))
      · by_cases z1 : S = 0
        · by_cases z2 : T = 0
          · exact finCm a b S T ha hb hT hN w f1 f2 f3 f4 f5 (by rw [z1, z2]; decide) (by rw [z1]; rfl) (by rw [z2]; rfl) na o1 o2 o3 o4 ni s0 c0 (d0 (by rw [c0]; decide))
          · exact finBm a b S T ha hb hT hN w f1 f2 f3 f4 f5 (hq fun h => z2 h.2) (by rw [z1]; rfl) (by simpa using z2) na o1 o2 o3 o4 ni s0 c0 (d0 (by rw [c0]; decide))
        · exact finAm a b S T ha hb hT hN w f1 f2 f3 f4 f5 (hq fun h => z1 h.1) (by simpa using z1) na o1 o2 o3 o4 ni s0 c0 (d0 (by rw [c0]; decide))
  · have n1 : opt (Ieee.double.add a b) = theNaN := by rw [add_nan (.inl na)]; rfl
    have n2 : opt (Ieee.double.mul a b) = theNaN := by rw [mul_nan (.inl na)]; rfl
    have n3 := negV_nan ha na
    have hS : S = theNaN := by rw [← f1, sub_nan hb (.inl na)]; rfl
    have z1 : ¬ S = 0 := by rw [hS]; decide
    exact nan a b S T ha hb hT hN w f1 f2 f3 f4 f5 (hq fun h => z1 h.1) (by simpa using z1) na n1 n2 n3
theorem walk (a0 a1 : Int) (w : World) (w0 : (Lit.int .u64 a0).wf = true) (w1 : (Lit.int .u64 a1).wf = true) :
    Calls Try.prog 4 #[.int .u64 a0, .int .u64 a1] w fun e w' => e = .returned (.bool true) ∧ Below w.heap.size w w' := by
  obtain ⟨a, rfl, ha⟩ := of_wf64 w0
  obtain ⟨b, rfl, hb⟩ := of_wf64 w1
  refine (walkN a b ha hb w).mono ?_
  rintro e w' ⟨rfl, n, rfl⟩
  exact ⟨rfl, rfl, rfl, rfl, Nat.le_refl _, fun _ _ => rfl⟩
end Go.Proofs.Ytoodbdjmbicaeaa.numRing
