/- NumRises: the walk. -/
import Derived.Test.YtoodbdjmbicaeaaKno
namespace Go.Proofs.Ytoodbdjmbicaeaa.numRises
open Go.RowKit
set_option maxRecDepth 8000
set_option maxHeartbeats 1000000
set_option linter.unusedVariables false

theorem of_wf64 {z : Int} (h : (Lit.int .u64 z).wf = true) : ∃ n : Nat, z = (n : Int) ∧ n < 2 ^ 64 := by
  have h1 : 0 ≤ z ∧ z ≤ 18446744073709551615 := by
    have := h; simp [Lit.wf, IntKind.min, IntKind.max, IntKind.signed, IntKind.bits] at this; omega
  exact ⟨z.toNat, by omega, by omega⟩

theorem no (a b c : Nat) (ha : a < 2 ^ 64) (hb : b < 2 ^ 64) (w : World) (hk : cmpK a b = false) :
    Kn 3 #[wd a, wd b, wd c] w (.bool true) := by
  go_enter Try.func3, Try.ntmps3
  go_wp2_with (first
    | (go_at_call 13; refine (kknown _).mono ?_; rintro e wk ⟨rfl, nk, rfl⟩)
    | (go_at_call 20; refine (kisnan _ _).mono ?_; rintro e wk ⟨rfl, rfl⟩)
    | (go_at_call 24; refine (kisinf (by assumption) _).mono ?_; rintro e wk ⟨rfl, rfl⟩)
    | (go_at_call 17; refine (kabs (by assumption) _).mono ?_; rintro e wk ⟨rfl, rfl⟩)
    | (go_at_call 19; refine (kneg (by assumption) _).mono ?_; rintro e wk ⟨rfl, rfl⟩)
    | (go_at_call 21; refine (knan _).mono ?_; rintro e wk ⟨rfl, rfl⟩)
    | (go_at_call 16; refine (ksqrt _ _).mono ?_; rintro e wk ⟨rfl, nk, rfl⟩)
    | (go_at_call 14; refine (kadd _ _ _).mono ?_; rintro e wk ⟨rfl, nk, rfl⟩)
    | (go_at_call 15; refine (ksub _ _ _).mono ?_; rintro e wk ⟨rfl, nk, rfl⟩)
    | (go_at_call 18; refine (kmul _ _ _).mono ?_; rintro e wk ⟨rfl, nk, rfl⟩)
    | (go_at_call 23; refine (kdiv _ _ _).mono ?_; rintro e wk ⟨rfl, nk, rfl⟩)
    | (go_at_call 33; refine (kfloor _ _).mono ?_; rintro e wk ⟨rfl, nk, rfl⟩)
    | (go_at_call 34; refine (kceil _ _).mono ?_; rintro e wk ⟨rfl, nk, rfl⟩)
    | (go_at_call 35; refine (ktrunc _ _).mono ?_; rintro e wk ⟨rfl, nk, rfl⟩)
    | (go_at_call 22; refine (kintL (n := 1) oneW (by decide +kernel) _).mono ?_; rintro e wk ⟨rfl, rfl⟩)
    | (go_at_call 12; refine (kcmp _ _ _).mono ?_; rintro e wk ⟨rfl, rfl⟩))
  go_ret
  exact ⟨rfl, _, rfl⟩

theorem up (a b c : Nat) (ha : a < 2 ^ 64) (hb : b < 2 ^ 64) (w : World) (hk : cmpK a b = true) (hd : 0 < cmpC a b) :
    Kn 3 #[wd a, wd b, wd c] w (.bool true) := by
  go_enter Try.func3, Try.ntmps3
  go_wp2_with (first
    | (go_at_call 13; refine (kknown _).mono ?_; rintro e wk ⟨rfl, nk, rfl⟩)
    | (go_at_call 20; refine (kisnan _ _).mono ?_; rintro e wk ⟨rfl, rfl⟩)
    | (go_at_call 24; refine (kisinf (by assumption) _).mono ?_; rintro e wk ⟨rfl, rfl⟩)
    | (go_at_call 17; refine (kabs (by assumption) _).mono ?_; rintro e wk ⟨rfl, rfl⟩)
    | (go_at_call 19; refine (kneg (by assumption) _).mono ?_; rintro e wk ⟨rfl, rfl⟩)
    | (go_at_call 21; refine (knan _).mono ?_; rintro e wk ⟨rfl, rfl⟩)
    | (go_at_call 16; refine (ksqrt _ _).mono ?_; rintro e wk ⟨rfl, nk, rfl⟩)
    | (go_at_call 14; refine (kadd _ _ _).mono ?_; rintro e wk ⟨rfl, nk, rfl⟩)
    | (go_at_call 15; refine (ksub _ _ _).mono ?_; rintro e wk ⟨rfl, nk, rfl⟩)
    | (go_at_call 18; refine (kmul _ _ _).mono ?_; rintro e wk ⟨rfl, nk, rfl⟩)
    | (go_at_call 23; refine (kdiv _ _ _).mono ?_; rintro e wk ⟨rfl, nk, rfl⟩)
    | (go_at_call 33; refine (kfloor _ _).mono ?_; rintro e wk ⟨rfl, nk, rfl⟩)
    | (go_at_call 34; refine (kceil _ _).mono ?_; rintro e wk ⟨rfl, nk, rfl⟩)
    | (go_at_call 35; refine (ktrunc _ _).mono ?_; rintro e wk ⟨rfl, nk, rfl⟩)
    | (go_at_call 22; refine (kintL (n := 1) oneW (by decide +kernel) _).mono ?_; rintro e wk ⟨rfl, rfl⟩)
    | (go_at_call 12; refine (kcmp _ _ _).mono ?_; rintro e wk ⟨rfl, rfl⟩))
  go_ret
  exact ⟨rfl, _, rfl⟩

theorem rtt0 (a b c : Nat) (ha : a < 2 ^ 64) (hb : b < 2 ^ 64) (w : World) (hk : cmpK a b = true) (hd : cmpC a b ≤ 0) (k1 : cmpK (opt (Ieee.double.add a c)) (opt (Ieee.double.add b c)) = true) (k2 : cmpC (opt (Ieee.double.add a c)) (opt (Ieee.double.add b c)) ≤ 0) (k3 : cmpK (opt (Ieee.double.sub c b)) (opt (Ieee.double.sub c a)) = true) (k4 : cmpC (opt (Ieee.double.sub c b)) (opt (Ieee.double.sub c a)) ≤ 0) (k5 : cmpK (opt (Ieee.double.sqrt (absV a))) (opt (Ieee.double.sqrt (absV b))) = true) (k6 : cmpK (absV a) (absV b) = true) (k7 : cmpC (opt (Ieee.double.sqrt (absV a))) (opt (Ieee.double.sqrt (absV b))) = 0) :
    Kn 3 #[wd a, wd b, wd c] w (.bool true) := by
  go_enter Try.func3, Try.ntmps3
  go_wp2_with (first
    | (go_at_call 13; refine (kknown _).mono ?_; rintro e wk ⟨rfl, nk, rfl⟩)
    | (go_at_call 20; refine (kisnan _ _).mono ?_; rintro e wk ⟨rfl, rfl⟩)
    | (go_at_call 24; refine (kisinf (by assumption) _).mono ?_; rintro e wk ⟨rfl, rfl⟩)
    | (go_at_call 17; refine (kabs (by assumption) _).mono ?_; rintro e wk ⟨rfl, rfl⟩)
    | (go_at_call 19; refine (kneg (by assumption) _).mono ?_; rintro e wk ⟨rfl, rfl⟩)
    | (go_at_call 21; refine (knan _).mono ?_; rintro e wk ⟨rfl, rfl⟩)
    | (go_at_call 16; refine (ksqrt _ _).mono ?_; rintro e wk ⟨rfl, nk, rfl⟩)
    | (go_at_call 14; refine (kadd _ _ _).mono ?_; rintro e wk ⟨rfl, nk, rfl⟩)
    | (go_at_call 15; refine (ksub _ _ _).mono ?_; rintro e wk ⟨rfl, nk, rfl⟩)
    | (go_at_call 18; refine (kmul _ _ _).mono ?_; rintro e wk ⟨rfl, nk, rfl⟩)
    | (go_at_call 23; refine (kdiv _ _ _).mono ?_; rintro e wk ⟨rfl, nk, rfl⟩)
    | (go_at_call 33; refine (kfloor _ _).mono ?_; rintro e wk ⟨rfl, nk, rfl⟩)
    | (go_at_call 34; refine (kceil _ _).mono ?_; rintro e wk ⟨rfl, nk, rfl⟩)
    | (go_at_call 35; refine (ktrunc _ _).mono ?_; rintro e wk ⟨rfl, nk, rfl⟩)
    | (go_at_call 22; refine (kintL (n := 1) oneW (by decide +kernel) _).mono ?_; rintro e wk ⟨rfl, rfl⟩)
    | (go_at_call 12; refine (kcmp _ _ _).mono ?_; rintro e wk ⟨rfl, rfl⟩))
  go_ret
  exact ⟨rfl, _, rfl⟩

theorem rtt1 (a b c : Nat) (ha : a < 2 ^ 64) (hb : b < 2 ^ 64) (w : World) (hk : cmpK a b = true) (hd : cmpC a b ≤ 0) (k1 : cmpK (opt (Ieee.double.add a c)) (opt (Ieee.double.add b c)) = true) (k2 : cmpC (opt (Ieee.double.add a c)) (opt (Ieee.double.add b c)) ≤ 0) (k3 : cmpK (opt (Ieee.double.sub c b)) (opt (Ieee.double.sub c a)) = true) (k4 : cmpC (opt (Ieee.double.sub c b)) (opt (Ieee.double.sub c a)) ≤ 0) (k5 : cmpK (opt (Ieee.double.sqrt (absV a))) (opt (Ieee.double.sqrt (absV b))) = true) (k6 : cmpK (absV a) (absV b) = true) (k7 : cmpC (opt (Ieee.double.sqrt (absV a))) (opt (Ieee.double.sqrt (absV b))) = 1) (k8 : cmpC (absV a) (absV b) = 1) :
    Kn 3 #[wd a, wd b, wd c] w (.bool true) := by
  go_enter Try.func3, Try.ntmps3
  go_wp2_with (first
    | (go_at_call 13; refine (kknown _).mono ?_; rintro e wk ⟨rfl, nk, rfl⟩)
    | (go_at_call 20; refine (kisnan _ _).mono ?_; rintro e wk ⟨rfl, rfl⟩)
    | (go_at_call 24; refine (kisinf (by assumption) _).mono ?_; rintro e wk ⟨rfl, rfl⟩)
    | (go_at_call 17; refine (kabs (by assumption) _).mono ?_; rintro e wk ⟨rfl, rfl⟩)
    | (go_at_call 19; refine (kneg (by assumption) _).mono ?_; rintro e wk ⟨rfl, rfl⟩)
    | (go_at_call 21; refine (knan _).mono ?_; rintro e wk ⟨rfl, rfl⟩)
    | (go_at_call 16; refine (ksqrt _ _).mono ?_; rintro e wk ⟨rfl, nk, rfl⟩)
    | (go_at_call 14; refine (kadd _ _ _).mono ?_; rintro e wk ⟨rfl, nk, rfl⟩)
    | (go_at_call 15; refine (ksub _ _ _).mono ?_; rintro e wk ⟨rfl, nk, rfl⟩)
    | (go_at_call 18; refine (kmul _ _ _).mono ?_; rintro e wk ⟨rfl, nk, rfl⟩)
    | (go_at_call 23; refine (kdiv _ _ _).mono ?_; rintro e wk ⟨rfl, nk, rfl⟩)
    | (go_at_call 33; refine (kfloor _ _).mono ?_; rintro e wk ⟨rfl, nk, rfl⟩)
    | (go_at_call 34; refine (kceil _ _).mono ?_; rintro e wk ⟨rfl, nk, rfl⟩)
    | (go_at_call 35; refine (ktrunc _ _).mono ?_; rintro e wk ⟨rfl, nk, rfl⟩)
    | (go_at_call 22; refine (kintL (n := 1) oneW (by decide +kernel) _).mono ?_; rintro e wk ⟨rfl, rfl⟩)
    | (go_at_call 12; refine (kcmp _ _ _).mono ?_; rintro e wk ⟨rfl, rfl⟩))
  go_ret
  exact ⟨rfl, _, rfl⟩

theorem rttm1 (a b c : Nat) (ha : a < 2 ^ 64) (hb : b < 2 ^ 64) (w : World) (hk : cmpK a b = true) (hd : cmpC a b ≤ 0) (k1 : cmpK (opt (Ieee.double.add a c)) (opt (Ieee.double.add b c)) = true) (k2 : cmpC (opt (Ieee.double.add a c)) (opt (Ieee.double.add b c)) ≤ 0) (k3 : cmpK (opt (Ieee.double.sub c b)) (opt (Ieee.double.sub c a)) = true) (k4 : cmpC (opt (Ieee.double.sub c b)) (opt (Ieee.double.sub c a)) ≤ 0) (k5 : cmpK (opt (Ieee.double.sqrt (absV a))) (opt (Ieee.double.sqrt (absV b))) = true) (k6 : cmpK (absV a) (absV b) = true) (k7 : cmpC (opt (Ieee.double.sqrt (absV a))) (opt (Ieee.double.sqrt (absV b))) = -1) (k8 : cmpC (absV a) (absV b) = -1) :
    Kn 3 #[wd a, wd b, wd c] w (.bool true) := by
  go_enter Try.func3, Try.ntmps3
  go_wp2_with (first
    | (go_at_call 13; refine (kknown _).mono ?_; rintro e wk ⟨rfl, nk, rfl⟩)
    | (go_at_call 20; refine (kisnan _ _).mono ?_; rintro e wk ⟨rfl, rfl⟩)
    | (go_at_call 24; refine (kisinf (by assumption) _).mono ?_; rintro e wk ⟨rfl, rfl⟩)
    | (go_at_call 17; refine (kabs (by assumption) _).mono ?_; rintro e wk ⟨rfl, rfl⟩)
    | (go_at_call 19; refine (kneg (by assumption) _).mono ?_; rintro e wk ⟨rfl, rfl⟩)
    | (go_at_call 21; refine (knan _).mono ?_; rintro e wk ⟨rfl, rfl⟩)
    | (go_at_call 16; refine (ksqrt _ _).mono ?_; rintro e wk ⟨rfl, nk, rfl⟩)
    | (go_at_call 14; refine (kadd _ _ _).mono ?_; rintro e wk ⟨rfl, nk, rfl⟩)
    | (go_at_call 15; refine (ksub _ _ _).mono ?_; rintro e wk ⟨rfl, nk, rfl⟩)
    | (go_at_call 18; refine (kmul _ _ _).mono ?_; rintro e wk ⟨rfl, nk, rfl⟩)
    | (go_at_call 23; refine (kdiv _ _ _).mono ?_; rintro e wk ⟨rfl, nk, rfl⟩)
    | (go_at_call 33; refine (kfloor _ _).mono ?_; rintro e wk ⟨rfl, nk, rfl⟩)
    | (go_at_call 34; refine (kceil _ _).mono ?_; rintro e wk ⟨rfl, nk, rfl⟩)
    | (go_at_call 35; refine (ktrunc _ _).mono ?_; rintro e wk ⟨rfl, nk, rfl⟩)
    | (go_at_call 22; refine (kintL (n := 1) oneW (by decide +kernel) _).mono ?_; rintro e wk ⟨rfl, rfl⟩)
    | (go_at_call 12; refine (kcmp _ _ _).mono ?_; rintro e wk ⟨rfl, rfl⟩))
  go_ret
  exact ⟨rfl, _, rfl⟩

theorem rtf0 (a b c : Nat) (ha : a < 2 ^ 64) (hb : b < 2 ^ 64) (w : World) (hk : cmpK a b = true) (hd : cmpC a b ≤ 0) (k1 : cmpK (opt (Ieee.double.add a c)) (opt (Ieee.double.add b c)) = true) (k2 : cmpC (opt (Ieee.double.add a c)) (opt (Ieee.double.add b c)) ≤ 0) (k3 : cmpK (opt (Ieee.double.sub c b)) (opt (Ieee.double.sub c a)) = false) (k5 : cmpK (opt (Ieee.double.sqrt (absV a))) (opt (Ieee.double.sqrt (absV b))) = true) (k6 : cmpK (absV a) (absV b) = true) (k7 : cmpC (opt (Ieee.double.sqrt (absV a))) (opt (Ieee.double.sqrt (absV b))) = 0) :
    Kn 3 #[wd a, wd b, wd c] w (.bool true) := by
  go_enter Try.func3, Try.ntmps3
  go_wp2_with (first
    | (go_at_call 13; refine (kknown _).mono ?_; rintro e wk ⟨rfl, nk, rfl⟩)
    | (go_at_call 20; refine (kisnan _ _).mono ?_; rintro e wk ⟨rfl, rfl⟩)
    | (go_at_call 24; refine (kisinf (by assumption) _).mono ?_; rintro e wk ⟨rfl, rfl⟩)
    | (go_at_call 17; refine (kabs (by assumption) _).mono ?_; rintro e wk ⟨rfl, rfl⟩)
    | (go_at_call 19; refine (kneg (by assumption) _).mono ?_; rintro e wk ⟨rfl, rfl⟩)
    | (go_at_call 21; refine (knan _).mono ?_; rintro e wk ⟨rfl, rfl⟩)
    | (go_at_call 16; refine (ksqrt _ _).mono ?_; rintro e wk ⟨rfl, nk, rfl⟩)
    | (go_at_call 14; refine (kadd _ _ _).mono ?_; rintro e wk ⟨rfl, nk, rfl⟩)
    | (go_at_call 15; refine (ksub _ _ _).mono ?_; rintro e wk ⟨rfl, nk, rfl⟩)
    | (go_at_call 18; refine (kmul _ _ _).mono ?_; rintro e wk ⟨rfl, nk, rfl⟩)
    | (go_at_call 23; refine (kdiv _ _ _).mono ?_; rintro e wk ⟨rfl, nk, rfl⟩)
    | (go_at_call 33; refine (kfloor _ _).mono ?_; rintro e wk ⟨rfl, nk, rfl⟩)
    | (go_at_call 34; refine (kceil _ _).mono ?_; rintro e wk ⟨rfl, nk, rfl⟩)
    | (go_at_call 35; refine (ktrunc _ _).mono ?_; rintro e wk ⟨rfl, nk, rfl⟩)
    | (go_at_call 22; refine (kintL (n := 1) oneW (by decide +kernel) _).mono ?_; rintro e wk ⟨rfl, rfl⟩)
    | (go_at_call 12; refine (kcmp _ _ _).mono ?_; rintro e wk ⟨rfl, rfl⟩))
  go_ret
  exact ⟨rfl, _, rfl⟩

theorem rtf1 (a b c : Nat) (ha : a < 2 ^ 64) (hb : b < 2 ^ 64) (w : World) (hk : cmpK a b = true) (hd : cmpC a b ≤ 0) (k1 : cmpK (opt (Ieee.double.add a c)) (opt (Ieee.double.add b c)) = true) (k2 : cmpC (opt (Ieee.double.add a c)) (opt (Ieee.double.add b c)) ≤ 0) (k3 : cmpK (opt (Ieee.double.sub c b)) (opt (Ieee.double.sub c a)) = false) (k5 : cmpK (opt (Ieee.double.sqrt (absV a))) (opt (Ieee.double.sqrt (absV b))) = true) (k6 : cmpK (absV a) (absV b) = true) (k7 : cmpC (opt (Ieee.double.sqrt (absV a))) (opt (Ieee.double.sqrt (absV b))) = 1) (k8 : cmpC (absV a) (absV b) = 1) :
    Kn 3 #[wd a, wd b, wd c] w (.bool true) := by
  go_enter Try.func3, Try.ntmps3
  go_wp2_with (first
    | (go_at_call 13; refine (kknown _).mono ?_; rintro e wk ⟨rfl, nk, rfl⟩)
    | (go_at_call 20; refine (kisnan _ _).mono ?_; rintro e wk ⟨rfl, rfl⟩)
    | (go_at_call 24; refine (kisinf (by assumption) _).mono ?_; rintro e wk ⟨rfl, rfl⟩)
    | (go_at_call 17; refine (kabs (by assumption) _).mono ?_; rintro e wk ⟨rfl, rfl⟩)
    | (go_at_call 19; refine (kneg (by assumption) _).mono ?_; rintro e wk ⟨rfl, rfl⟩)
    | (go_at_call 21; refine (knan _).mono ?_; rintro e wk ⟨rfl, rfl⟩)
    | (go_at_call 16; refine (ksqrt _ _).mono ?_; rintro e wk ⟨rfl, nk, rfl⟩)
    | (go_at_call 14; refine (kadd _ _ _).mono ?_; rintro e wk ⟨rfl, nk, rfl⟩)
    | (go_at_call 15; refine (ksub _ _ _).mono ?_; rintro e wk ⟨rfl, nk, rfl⟩)
    | (go_at_call 18; refine (kmul _ _ _).mono ?_; rintro e wk ⟨rfl, nk, rfl⟩)
    | (go_at_call 23; refine (kdiv _ _ _).mono ?_; rintro e wk ⟨rfl, nk, rfl⟩)
    | (go_at_call 33; refine (kfloor _ _).mono ?_; rintro e wk ⟨rfl, nk, rfl⟩)
    | (go_at_call 34; refine (kceil _ _).mono ?_; rintro e wk ⟨rfl, nk, rfl⟩)
    | (go_at_call 35; refine (ktrunc _ _).mono ?_; rintro e wk ⟨rfl, nk, rfl⟩)
    | (go_at_call 22; refine (kintL (n := 1) oneW (by decide +kernel) _).mono ?_; rintro e wk ⟨rfl, rfl⟩)
    | (go_at_call 12; refine (kcmp _ _ _).mono ?_; rintro e wk ⟨rfl, rfl⟩))
  go_ret
  exact ⟨rfl, _, rfl⟩

theorem rtfm1 (a b c : Nat) (ha : a < 2 ^ 64) (hb : b < 2 ^ 64) (w : World) (hk : cmpK a b = true) (hd : cmpC a b ≤ 0) (k1 : cmpK (opt (Ieee.double.add a c)) (opt (Ieee.double.add b c)) = true) (k2 : cmpC (opt (Ieee.double.add a c)) (opt (Ieee.double.add b c)) ≤ 0) (k3 : cmpK (opt (Ieee.double.sub c b)) (opt (Ieee.double.sub c a)) = false) (k5 : cmpK (opt (Ieee.double.sqrt (absV a))) (opt (Ieee.double.sqrt (absV b))) = true) (k6 : cmpK (absV a) (absV b) = true) (k7 : cmpC (opt (Ieee.double.sqrt (absV a))) (opt (Ieee.double.sqrt (absV b))) = -1) (k8 : cmpC (absV a) (absV b) = -1) :
    Kn 3 #[wd a, wd b, wd c] w (.bool true) := by
  go_enter Try.func3, Try.ntmps3
  go_wp2_with (first
    | (go_at_call 13; refine (kknown _).mono ?_; rintro e wk ⟨rfl, nk, rfl⟩)
    | (go_at_call 20; refine (kisnan _ _).mono ?_; rintro e wk ⟨rfl, rfl⟩)
    | (go_at_call 24; refine (kisinf (by assumption) _).mono ?_; rintro e wk ⟨rfl, rfl⟩)
    | (go_at_call 17; refine (kabs (by assumption) _).mono ?_; rintro e wk ⟨rfl, rfl⟩)
    | (go_at_call 19; refine (kneg (by assumption) _).mono ?_; rintro e wk ⟨rfl, rfl⟩)
    | (go_at_call 21; refine (knan _).mono ?_; rintro e wk ⟨rfl, rfl⟩)
    | (go_at_call 16; refine (ksqrt _ _).mono ?_; rintro e wk ⟨rfl, nk, rfl⟩)
    | (go_at_call 14; refine (kadd _ _ _).mono ?_; rintro e wk ⟨rfl, nk, rfl⟩)
    | (go_at_call 15; refine (ksub _ _ _).mono ?_; rintro e wk ⟨rfl, nk, rfl⟩)
    | (go_at_call 18; refine (kmul _ _ _).mono ?_; rintro e wk ⟨rfl, nk, rfl⟩)
    | (go_at_call 23; refine (kdiv _ _ _).mono ?_; rintro e wk ⟨rfl, nk, rfl⟩)
    | (go_at_call 33; refine (kfloor _ _).mono ?_; rintro e wk ⟨rfl, nk, rfl⟩)
    | (go_at_call 34; refine (kceil _ _).mono ?_; rintro e wk ⟨rfl, nk, rfl⟩)
    | (go_at_call 35; refine (ktrunc _ _).mono ?_; rintro e wk ⟨rfl, nk, rfl⟩)
    | (go_at_call 22; refine (kintL (n := 1) oneW (by decide +kernel) _).mono ?_; rintro e wk ⟨rfl, rfl⟩)
    | (go_at_call 12; refine (kcmp _ _ _).mono ?_; rintro e wk ⟨rfl, rfl⟩))
  go_ret
  exact ⟨rfl, _, rfl⟩

theorem rft0 (a b c : Nat) (ha : a < 2 ^ 64) (hb : b < 2 ^ 64) (w : World) (hk : cmpK a b = true) (hd : cmpC a b ≤ 0) (k1 : cmpK (opt (Ieee.double.add a c)) (opt (Ieee.double.add b c)) = false) (k3 : cmpK (opt (Ieee.double.sub c b)) (opt (Ieee.double.sub c a)) = true) (k4 : cmpC (opt (Ieee.double.sub c b)) (opt (Ieee.double.sub c a)) ≤ 0) (k5 : cmpK (opt (Ieee.double.sqrt (absV a))) (opt (Ieee.double.sqrt (absV b))) = true) (k6 : cmpK (absV a) (absV b) = true) (k7 : cmpC (opt (Ieee.double.sqrt (absV a))) (opt (Ieee.double.sqrt (absV b))) = 0) :
    Kn 3 #[wd a, wd b, wd c] w (.bool true) := by
  go_enter Try.func3, Try.ntmps3
  go_wp2_with (first
    | (go_at_call 13; refine (kknown _).mono ?_; rintro e wk ⟨rfl, nk, rfl⟩)
    | (go_at_call 20; refine (kisnan _ _).mono ?_; rintro e wk ⟨rfl, rfl⟩)
    | (go_at_call 24; refine (kisinf (by assumption) _).mono ?_; rintro e wk ⟨rfl, rfl⟩)
    | (go_at_call 17; refine (kabs (by assumption) _).mono ?_; rintro e wk ⟨rfl, rfl⟩)
    | (go_at_call 19; refine (kneg (by assumption) _).mono ?_; rintro e wk ⟨rfl, rfl⟩)
    | (go_at_call 21; refine (knan _).mono ?_; rintro e wk ⟨rfl, rfl⟩)
    | (go_at_call 16; refine (ksqrt _ _).mono ?_; rintro e wk ⟨rfl, nk, rfl⟩)
    | (go_at_call 14; refine (kadd _ _ _).mono ?_; rintro e wk ⟨rfl, nk, rfl⟩)
    | (go_at_call 15; refine (ksub _ _ _).mono ?_; rintro e wk ⟨rfl, nk, rfl⟩)
    | (go_at_call 18; refine (kmul _ _ _).mono ?_; rintro e wk ⟨rfl, nk, rfl⟩)
    | (go_at_call 23; refine (kdiv _ _ _).mono ?_; rintro e wk ⟨rfl, nk, rfl⟩)
    | (go_at_call 33; refine (kfloor _ _).mono ?_; rintro e wk ⟨rfl, nk, rfl⟩)
    | (go_at_call 34; refine (kceil _ _).mono ?_; rintro e wk ⟨rfl, nk, rfl⟩)
    | (go_at_call 35; refine (ktrunc _ _).mono ?_; rintro e wk ⟨rfl, nk, rfl⟩)
    | (go_at_call 22; refine (kintL (n := 1) oneW (by decide +kernel) _).mono ?_; rintro e wk ⟨rfl, rfl⟩)
    | (go_at_call 12; refine (kcmp _ _ _).mono ?_; rintro e wk ⟨rfl, rfl⟩))
  go_ret
  exact ⟨rfl, _, rfl⟩

theorem rft1 (a b c : Nat) (ha : a < 2 ^ 64) (hb : b < 2 ^ 64) (w : World) (hk : cmpK a b = true) (hd : cmpC a b ≤ 0) (k1 : cmpK (opt (Ieee.double.add a c)) (opt (Ieee.double.add b c)) = false) (k3 : cmpK (opt (Ieee.double.sub c b)) (opt (Ieee.double.sub c a)) = true) (k4 : cmpC (opt (Ieee.double.sub c b)) (opt (Ieee.double.sub c a)) ≤ 0) (k5 : cmpK (opt (Ieee.double.sqrt (absV a))) (opt (Ieee.double.sqrt (absV b))) = true) (k6 : cmpK (absV a) (absV b) = true) (k7 : cmpC (opt (Ieee.double.sqrt (absV a))) (opt (Ieee.double.sqrt (absV b))) = 1) (k8 : cmpC (absV a) (absV b) = 1) :
    Kn 3 #[wd a, wd b, wd c] w (.bool true) := by
  go_enter Try.func3, Try.ntmps3
  go_wp2_with (first
    | (go_at_call 13; refine (kknown _).mono ?_; rintro e wk ⟨rfl, nk, rfl⟩)
    | (go_at_call 20; refine (kisnan _ _).mono ?_; rintro e wk ⟨rfl, rfl⟩)
    | (go_at_call 24; refine (kisinf (by assumption) _).mono ?_; rintro e wk ⟨rfl, rfl⟩)
    | (go_at_call 17; refine (kabs (by assumption) _).mono ?_; rintro e wk ⟨rfl, rfl⟩)
    | (go_at_call 19; refine (kneg (by assumption) _).mono ?_; rintro e wk ⟨rfl, rfl⟩)
    | (go_at_call 21; refine (knan _).mono ?_; rintro e wk ⟨rfl, rfl⟩)
    | (go_at_call 16; refine (ksqrt _ _).mono ?_; rintro e wk ⟨rfl, nk, rfl⟩)
    | (go_at_call 14; refine (kadd _ _ _).mono ?_; rintro e wk ⟨rfl, nk, rfl⟩)
    | (go_at_call 15; refine (ksub _ _ _).mono ?_; rintro e wk ⟨rfl, nk, rfl⟩)
    | (go_at_call 18; refine (kmul _ _ _).mono ?_; rintro e wk ⟨rfl, nk, rfl⟩)
    | (go_at_call 23; refine (kdiv _ _ _).mono ?_; rintro e wk ⟨rfl, nk, rfl⟩)
    | (go_at_call 33; refine (kfloor _ _).mono ?_; rintro e wk ⟨rfl, nk, rfl⟩)
    | (go_at_call 34; refine (kceil _ _).mono ?_; rintro e wk ⟨rfl, nk, rfl⟩)
    | (go_at_call 35; refine (ktrunc _ _).mono ?_; rintro e wk ⟨rfl, nk, rfl⟩)
    | (go_at_call 22; refine (kintL (n := 1) oneW (by decide +kernel) _).mono ?_; rintro e wk ⟨rfl, rfl⟩)
    | (go_at_call 12; refine (kcmp _ _ _).mono ?_; rintro e wk ⟨rfl, rfl⟩))
  go_ret
  exact ⟨rfl, _, rfl⟩

theorem rftm1 (a b c : Nat) (ha : a < 2 ^ 64) (hb : b < 2 ^ 64) (w : World) (hk : cmpK a b = true) (hd : cmpC a b ≤ 0) (k1 : cmpK (opt (Ieee.double.add a c)) (opt (Ieee.double.add b c)) = false) (k3 : cmpK (opt (Ieee.double.sub c b)) (opt (Ieee.double.sub c a)) = true) (k4 : cmpC (opt (Ieee.double.sub c b)) (opt (Ieee.double.sub c a)) ≤ 0) (k5 : cmpK (opt (Ieee.double.sqrt (absV a))) (opt (Ieee.double.sqrt (absV b))) = true) (k6 : cmpK (absV a) (absV b) = true) (k7 : cmpC (opt (Ieee.double.sqrt (absV a))) (opt (Ieee.double.sqrt (absV b))) = -1) (k8 : cmpC (absV a) (absV b) = -1) :
    Kn 3 #[wd a, wd b, wd c] w (.bool true) := by
  go_enter Try.func3, Try.ntmps3
  go_wp2_with (first
    | (go_at_call 13; refine (kknown _).mono ?_; rintro e wk ⟨rfl, nk, rfl⟩)
    | (go_at_call 20; refine (kisnan _ _).mono ?_; rintro e wk ⟨rfl, rfl⟩)
    | (go_at_call 24; refine (kisinf (by assumption) _).mono ?_; rintro e wk ⟨rfl, rfl⟩)
    | (go_at_call 17; refine (kabs (by assumption) _).mono ?_; rintro e wk ⟨rfl, rfl⟩)
    | (go_at_call 19; refine (kneg (by assumption) _).mono ?_; rintro e wk ⟨rfl, rfl⟩)
    | (go_at_call 21; refine (knan _).mono ?_; rintro e wk ⟨rfl, rfl⟩)
    | (go_at_call 16; refine (ksqrt _ _).mono ?_; rintro e wk ⟨rfl, nk, rfl⟩)
    | (go_at_call 14; refine (kadd _ _ _).mono ?_; rintro e wk ⟨rfl, nk, rfl⟩)
    | (go_at_call 15; refine (ksub _ _ _).mono ?_; rintro e wk ⟨rfl, nk, rfl⟩)
    | (go_at_call 18; refine (kmul _ _ _).mono ?_; rintro e wk ⟨rfl, nk, rfl⟩)
    | (go_at_call 23; refine (kdiv _ _ _).mono ?_; rintro e wk ⟨rfl, nk, rfl⟩)
    | (go_at_call 33; refine (kfloor _ _).mono ?_; rintro e wk ⟨rfl, nk, rfl⟩)
    | (go_at_call 34; refine (kceil _ _).mono ?_; rintro e wk ⟨rfl, nk, rfl⟩)
    | (go_at_call 35; refine (ktrunc _ _).mono ?_; rintro e wk ⟨rfl, nk, rfl⟩)
    | (go_at_call 22; refine (kintL (n := 1) oneW (by decide +kernel) _).mono ?_; rintro e wk ⟨rfl, rfl⟩)
    | (go_at_call 12; refine (kcmp _ _ _).mono ?_; rintro e wk ⟨rfl, rfl⟩))
  go_ret
  exact ⟨rfl, _, rfl⟩

theorem rff0 (a b c : Nat) (ha : a < 2 ^ 64) (hb : b < 2 ^ 64) (w : World) (hk : cmpK a b = true) (hd : cmpC a b ≤ 0) (k1 : cmpK (opt (Ieee.double.add a c)) (opt (Ieee.double.add b c)) = false) (k3 : cmpK (opt (Ieee.double.sub c b)) (opt (Ieee.double.sub c a)) = false) (k5 : cmpK (opt (Ieee.double.sqrt (absV a))) (opt (Ieee.double.sqrt (absV b))) = true) (k6 : cmpK (absV a) (absV b) = true) (k7 : cmpC (opt (Ieee.double.sqrt (absV a))) (opt (Ieee.double.sqrt (absV b))) = 0) :
    Kn 3 #[wd a, wd b, wd c] w (.bool true) := by
  go_enter Try.func3, Try.ntmps3
  go_wp2_with (first
    | (go_at_call 13; refine (kknown _).mono ?_; rintro e wk ⟨rfl, nk, rfl⟩)
    | (go_at_call 20; refine (kisnan _ _).mono ?_; rintro e wk ⟨rfl, rfl⟩)
    | (go_at_call 24; refine (kisinf (by assumption) _).mono ?_; rintro e wk ⟨rfl, rfl⟩)
    | (go_at_call 17; refine (kabs (by assumption) _).mono ?_; rintro e wk ⟨rfl, rfl⟩)
    | (go_at_call 19; refine (kneg (by assumption) _).mono ?_; rintro e wk ⟨rfl, rfl⟩)
    | (go_at_call 21; refine (knan _).mono ?_; rintro e wk ⟨rfl, rfl⟩)
    | (go_at_call 16; refine (ksqrt _ _).mono ?_; rintro e wk ⟨rfl, nk, rfl⟩)
    | (go_at_call 14; refine (kadd _ _ _).mono ?_; rintro e wk ⟨rfl, nk, rfl⟩)
    | (go_at_call 15; refine (ksub _ _ _).mono ?_; rintro e wk ⟨rfl, nk, rfl⟩)
    | (go_at_call 18; refine (kmul _ _ _).mono ?_; rintro e wk ⟨rfl, nk, rfl⟩)
    | (go_at_call 23; refine (kdiv _ _ _).mono ?_; rintro e wk ⟨rfl, nk, rfl⟩)
    | (go_at_call 33; refine (kfloor _ _).mono ?_; rintro e wk ⟨rfl, nk, rfl⟩)
    | (go_at_call 34; refine (kceil _ _).mono ?_; rintro e wk ⟨rfl, nk, rfl⟩)
    | (go_at_call 35; refine (ktrunc _ _).mono ?_; rintro e wk ⟨rfl, nk, rfl⟩)
    | (go_at_call 22; refine (kintL (n := 1) oneW (by decide +kernel) _).mono ?_; rintro e wk ⟨rfl, rfl⟩)
    | (go_at_call 12; refine (kcmp _ _ _).mono ?_; rintro e wk ⟨rfl, rfl⟩))
  go_ret
  exact ⟨rfl, _, rfl⟩

theorem rff1 (a b c : Nat) (ha : a < 2 ^ 64) (hb : b < 2 ^ 64) (w : World) (hk : cmpK a b = true) (hd : cmpC a b ≤ 0) (k1 : cmpK (opt (Ieee.double.add a c)) (opt (Ieee.double.add b c)) = false) (k3 : cmpK (opt (Ieee.double.sub c b)) (opt (Ieee.double.sub c a)) = false) (k5 : cmpK (opt (Ieee.double.sqrt (absV a))) (opt (Ieee.double.sqrt (absV b))) = true) (k6 : cmpK (absV a) (absV b) = true) (k7 : cmpC (opt (Ieee.double.sqrt (absV a))) (opt (Ieee.double.sqrt (absV b))) = 1) (k8 : cmpC (absV a) (absV b) = 1) :
    Kn 3 #[wd a, wd b, wd c] w (.bool true) := by
  go_enter Try.func3, Try.ntmps3
  go_wp2_with (first
    | (go_at_call 13; refine (kknown _).mono ?_; rintro e wk ⟨rfl, nk, rfl⟩)
    | (go_at_call 20; refine (kisnan _ _).mono ?_; rintro e wk ⟨rfl, rfl⟩)
    | (go_at_call 24; refine (kisinf (by assumption) _).mono ?_; rintro e wk ⟨rfl, rfl⟩)
    | (go_at_call 17; refine (kabs (by assumption) _).mono ?_; rintro e wk ⟨rfl, rfl⟩)
    | (go_at_call 19; refine (kneg (by assumption) _).mono ?_; rintro e wk ⟨rfl, rfl⟩)
    | (go_at_call 21; refine (knan _).mono ?_; rintro e wk ⟨rfl, rfl⟩)
    | (go_at_call 16; refine (ksqrt _ _).mono ?_; rintro e wk ⟨rfl, nk, rfl⟩)
    | (go_at_call 14; refine (kadd _ _ _).mono ?_; rintro e wk ⟨rfl, nk, rfl⟩)
    | (go_at_call 15; refine (ksub _ _ _).mono ?_; rintro e wk ⟨rfl, nk, rfl⟩)
    | (go_at_call 18; refine (kmul _ _ _).mono ?_; rintro e wk ⟨rfl, nk, rfl⟩)
    | (go_at_call 23; refine (kdiv _ _ _).mono ?_; rintro e wk ⟨rfl, nk, rfl⟩)
    | (go_at_call 33; refine (kfloor _ _).mono ?_; rintro e wk ⟨rfl, nk, rfl⟩)
    | (go_at_call 34; refine (kceil _ _).mono ?_; rintro e wk ⟨rfl, nk, rfl⟩)
    | (go_at_call 35; refine (ktrunc _ _).mono ?_; rintro e wk ⟨rfl, nk, rfl⟩)
    | (go_at_call 22; refine (kintL (n := 1) oneW (by decide +kernel) _).mono ?_; rintro e wk ⟨rfl, rfl⟩)
    | (go_at_call 12; refine (kcmp _ _ _).mono ?_; rintro e wk ⟨rfl, rfl⟩))
  go_ret
  exact ⟨rfl, _, rfl⟩

theorem rffm1 (a b c : Nat) (ha : a < 2 ^ 64) (hb : b < 2 ^ 64) (w : World) (hk : cmpK a b = true) (hd : cmpC a b ≤ 0) (k1 : cmpK (opt (Ieee.double.add a c)) (opt (Ieee.double.add b c)) = false) (k3 : cmpK (opt (Ieee.double.sub c b)) (opt (Ieee.double.sub c a)) = false) (k5 : cmpK (opt (Ieee.double.sqrt (absV a))) (opt (Ieee.double.sqrt (absV b))) = true) (k6 : cmpK (absV a) (absV b) = true) (k7 : cmpC (opt (Ieee.double.sqrt (absV a))) (opt (Ieee.double.sqrt (absV b))) = -1) (k8 : cmpC (absV a) (absV b) = -1) :
    Kn 3 #[wd a, wd b, wd c] w (.bool true) := by
  go_enter Try.func3, Try.ntmps3
  go_wp2_with (first
    | (go_at_call 13; refine (kknown _).mono ?_; rintro e wk ⟨rfl, nk, rfl⟩)
    | (go_at_call 20; refine (kisnan _ _).mono ?_; rintro e wk ⟨rfl, rfl⟩)
    | (go_at_call 24; refine (kisinf (by assumption) _).mono ?_; rintro e wk ⟨rfl, rfl⟩)
    | (go_at_call 17; refine (kabs (by assumption) _).mono ?_; rintro e wk ⟨rfl, rfl⟩)
    | (go_at_call 19; refine (kneg (by assumption) _).mono ?_; rintro e wk ⟨rfl, rfl⟩)
    | (go_at_call 21; refine (knan _).mono ?_; rintro e wk ⟨rfl, rfl⟩)
    | (go_at_call 16; refine (ksqrt _ _).mono ?_; rintro e wk ⟨rfl, nk, rfl⟩)
    | (go_at_call 14; refine (kadd _ _ _).mono ?_; rintro e wk ⟨rfl, nk, rfl⟩)
    | (go_at_call 15; refine (ksub _ _ _).mono ?_; rintro e wk ⟨rfl, nk, rfl⟩)
    | (go_at_call 18; refine (kmul _ _ _).mono ?_; rintro e wk ⟨rfl, nk, rfl⟩)
    | (go_at_call 23; refine (kdiv _ _ _).mono ?_; rintro e wk ⟨rfl, nk, rfl⟩)
    | (go_at_call 33; refine (kfloor _ _).mono ?_; rintro e wk ⟨rfl, nk, rfl⟩)
    | (go_at_call 34; refine (kceil _ _).mono ?_; rintro e wk ⟨rfl, nk, rfl⟩)
    | (go_at_call 35; refine (ktrunc _ _).mono ?_; rintro e wk ⟨rfl, nk, rfl⟩)
    | (go_at_call 22; refine (kintL (n := 1) oneW (by decide +kernel) _).mono ?_; rintro e wk ⟨rfl, rfl⟩)
    | (go_at_call 12; refine (kcmp _ _ _).mono ?_; rintro e wk ⟨rfl, rfl⟩))
  go_ret
  exact ⟨rfl, _, rfl⟩

theorem cmp_vals (x y : Nat) : cmpC x y = 0 ∨ cmpC x y = 1 ∨ cmpC x y = -1 := by
  unfold cmpC
  split
  · exact .inr (.inr rfl)
  · exact .inr (.inl rfl)
  · exact .inl rfl
theorem walkN (a b c : Nat) (ha : a < 2 ^ 64) (hb : b < 2 ^ 64) (w : World) : Kn 3 #[wd a, wd b, wd c] w (.bool true) := by
  by_cases hk : cmpK a b = true
  · by_cases hd : cmpC a b ≤ 0
    · obtain ⟨h1, h2, h3, h4, h5⟩ := rises_law (c := c) ha hb hk hd
      have hv := cmp_vals (opt (Ieee.double.sqrt (absV a))) (opt (Ieee.double.sqrt (absV b)))
      cases k1 : cmpK (opt (Ieee.double.add a c)) (opt (Ieee.double.add b c)) <;> cases k3 : cmpK (opt (Ieee.double.sub c b)) (opt (Ieee.double.sub c a))
      · rcases hv with h | h | h
        · exact rff0 a b c ha hb w hk hd k1 k3 h3 h4 h
        · exact rff1 a b c ha hb w hk hd k1 k3 h3 h4 h (by omega)
        · exact rffm1 a b c ha hb w hk hd k1 k3 h3 h4 h (by omega)
      · rcases hv with h | h | h
        · exact rft0 a b c ha hb w hk hd k1 k3 (h2 k3) h3 h4 h
        · exact rft1 a b c ha hb w hk hd k1 k3 (h2 k3) h3 h4 h (by omega)
        · exact rftm1 a b c ha hb w hk hd k1 k3 (h2 k3) h3 h4 h (by omega)
      · rcases hv with h | h | h
        · exact rtf0 a b c ha hb w hk hd k1 (h1 k1) k3 h3 h4 h
        · exact rtf1 a b c ha hb w hk hd k1 (h1 k1) k3 h3 h4 h (by omega)
        · exact rtfm1 a b c ha hb w hk hd k1 (h1 k1) k3 h3 h4 h (by omega)
      · rcases hv with h | h | h
        · exact rtt0 a b c ha hb w hk hd k1 (h1 k1) k3 (h2 k3) h3 h4 h
        · exact rtt1 a b c ha hb w hk hd k1 (h1 k1) k3 (h2 k3) h3 h4 h (by omega)
        · exact rttm1 a b c ha hb w hk hd k1 (h1 k1) k3 (h2 k3) h3 h4 h (by omega)
    · exact up a b c ha hb w hk (by omega)
  · exact no a b c ha hb w (by simpa using hk)
theorem walk (a0 a1 a2 : Int) (w : World) (w0 : (Lit.int .u64 a0).wf = true) (w1 : (Lit.int .u64 a1).wf = true) (w2 : (Lit.int .u64 a2).wf = true) :
    Calls Try.prog 3 #[.int .u64 a0, .int .u64 a1, .int .u64 a2] w fun e w' => e = .returned (.bool true) ∧ Below w.heap.size w w' := by
  obtain ⟨a, rfl, ha⟩ := of_wf64 w0
  obtain ⟨b, rfl, hb⟩ := of_wf64 w1
  obtain ⟨c, rfl, _⟩ := of_wf64 w2
  refine (walkN a b c ha hb w).mono ?_
  rintro e w' ⟨rfl, n, rfl⟩
  exact ⟨rfl, rfl, rfl, rfl, Nat.le_refl _, fun _ _ => rfl⟩
end Go.Proofs.Ytoodbdjmbicaeaa.numRises
