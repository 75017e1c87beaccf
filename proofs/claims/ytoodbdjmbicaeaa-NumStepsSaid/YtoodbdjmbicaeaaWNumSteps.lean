/- NumSteps: the walk. -/
import Derived.Test.YtoodbdjmbicaeaaKno
namespace Go.Proofs.Ytoodbdjmbicaeaa.numSteps
open Go.RowKit
set_option maxRecDepth 8000
set_option maxHeartbeats 1000000
set_option linter.unusedVariables false

theorem of_wf64 {z : Int} (h : (Lit.int .u64 z).wf = true) : ∃ n : Nat, z = (n : Int) ∧ n < 2 ^ 64 := by
  have h1 : 0 ≤ z ∧ z ≤ 18446744073709551615 := by
    have := h; simp [Lit.wf, IntKind.min, IntKind.max, IntKind.signed, IntKind.bits] at this; omega
  exact ⟨z.toNat, by omega, by omega⟩

theorem nan (a : Nat) (ha : a < 2 ^ 64) (w : World) (hn : nanW a = true) (hi : isInfW a = false) (h1 : wayV .down a = theNaN) (h2 : wayV .up a = theNaN) (h3 : wayV .zero a = theNaN) :
    Kn 8 #[wd a] w (.bool true) := by
  go_enter Try.func8, Try.ntmps8
  go_wp2_with (first
    | (go_at_call 13; refine (kknown _).mono ?_; rintro e wk ⟨rfl, nk, rfl⟩)
    | (go_at_call 20; refine (kisnan _ _).mono ?_; rintro e wk ⟨rfl, rfl⟩)
    | (go_at_call 24; refine (kisinf (by assumption) _).mono ?_; rintro e wk ⟨rfl, rfl⟩)
    | (go_at_call 17; refine (kabs (by assumption) _).mono ?_; rintro e wk ⟨rfl, rfl⟩)
    | (go_at_call 19; refine (kneg (by assumption) _).mono ?_; rintro e wk ⟨rfl, rfl⟩)
    | (go_at_call 21; refine (knan _).mono ?_; rintro e wk ⟨rfl, rfl⟩)
    | (go_at_call 16; refine (ksqrt _ _).mono ?_; rintro e wk ⟨rfl, nk, rfl⟩)
    | (go_at_call 14; refine (kadd _ _ _).mono ?_; rintro e wk ⟨rfl, nk, rfl⟩)
    | (go_at_call 15; refine (ksub _ _ _).mono ?_; rintro e wk ⟨rfl, nk, rfl⟩)
    | (go_at_call 18; refine (kmul _ _ _).mono ?_; rintro e wk ⟨rfl, nk, rfl⟩)
    | (go_at_call 23; refine (kdiv _ _ _).mono ?_; rintro e wk ⟨rfl, nk, rfl⟩)
    | (go_at_call 33; refine (kfloor _ _).mono ?_; rintro e wk ⟨rfl, nk, rfl⟩)
    | (go_at_call 34; refine (kceil _ _).mono ?_; rintro e wk ⟨rfl, nk, rfl⟩)
    | (go_at_call 35; refine (ktrunc _ _).mono ?_; rintro e wk ⟨rfl, nk, rfl⟩)
    | (go_at_call 22; refine (kintL (n := 1) oneW (by decide +kernel) _).mono ?_; rintro e wk ⟨rfl, rfl⟩)
    | (go_at_call 12; refine (kcmp _ _ _).mono ?_; rintro e wk ⟨rfl, rfl⟩))
  go_ret
  exact ⟨rfl, _, rfl⟩

theorem inf (a : Nat) (ha : a < 2 ^ 64) (w : World) (hn : nanW a = false) (hi : isInfW a = true) (h1 : wayV .down a = a) (h2 : wayV .up a = a) (h3 : wayV .zero a = a) :
    Kn 8 #[wd a] w (.bool true) := by
  go_enter Try.func8, Try.ntmps8
  go_wp2_with (first
    | (go_at_call 13; refine (kknown _).mono ?_; rintro e wk ⟨rfl, nk, rfl⟩)
    | (go_at_call 20; refine (kisnan _ _).mono ?_; rintro e wk ⟨rfl, rfl⟩)
    | (go_at_call 24; refine (kisinf (by assumption) _).mono ?_; rintro e wk ⟨rfl, rfl⟩)
    | (go_at_call 17; refine (kabs (by assumption) _).mono ?_; rintro e wk ⟨rfl, rfl⟩)
    | (go_at_call 19; refine (kneg (by assumption) _).mono ?_; rintro e wk ⟨rfl, rfl⟩)
    | (go_at_call 21; refine (knan _).mono ?_; rintro e wk ⟨rfl, rfl⟩)
    | (go_at_call 16; refine (ksqrt _ _).mono ?_; rintro e wk ⟨rfl, nk, rfl⟩)
    | (go_at_call 14; refine (kadd _ _ _).mono ?_; rintro e wk ⟨rfl, nk, rfl⟩)
    | (go_at_call 15; refine (ksub _ _ _).mono ?_; rintro e wk ⟨rfl, nk, rfl⟩)
    | (go_at_call 18; refine (kmul _ _ _).mono ?_; rintro e wk ⟨rfl, nk, rfl⟩)
    | (go_at_call 23; refine (kdiv _ _ _).mono ?_; rintro e wk ⟨rfl, nk, rfl⟩)
    | (go_at_call 33; refine (kfloor _ _).mono ?_; rintro e wk ⟨rfl, nk, rfl⟩)
    | (go_at_call 34; refine (kceil _ _).mono ?_; rintro e wk ⟨rfl, nk, rfl⟩)
    | (go_at_call 35; refine (ktrunc _ _).mono ?_; rintro e wk ⟨rfl, nk, rfl⟩)
    | (go_at_call 22; refine (kintL (n := 1) oneW (by decide +kernel) _).mono ?_; rintro e wk ⟨rfl, rfl⟩)
    | (go_at_call 12; refine (kcmp _ _ _).mono ?_; rintro e wk ⟨rfl, rfl⟩))
  go_ret
  exact ⟨rfl, _, rfl⟩

theorem finA (a : Nat) (ha : a < 2 ^ 64) (w : World) (hn : nanW a = false) (hi : isInfW a = false) (l0 : wayV .zero a < 2 ^ 64) (l1 : cmpC (wayV .down a) a ≤ 0) (l2 : cmpC a (wayV .up a) ≤ 0) (l3 : cmpC (opt (Ieee.double.sub (wayV .up a) (wayV .down a))) oneW ≤ 0) (l4 : wayV .down (wayV .down a) = wayV .down a) (l5 : wayV .up (wayV .down a) = wayV .down a) (l6 : wayV .zero (wayV .up a) = wayV .up a) (l7 : cmpC (absV (wayV .down a)) (absV a) ≤ 0) (l8 : wayV .zero a = wayV .down a) (l9 : wayV .down a < 2 ^ 64) :
    Kn 8 #[wd a] w (.bool true) := by
  go_enter Try.func8, Try.ntmps8
  go_wp2_with (first
    | (go_at_call 13; refine (kknown _).mono ?_; rintro e wk ⟨rfl, nk, rfl⟩)
    | (go_at_call 20; refine (kisnan _ _).mono ?_; rintro e wk ⟨rfl, rfl⟩)
    | (go_at_call 24; refine (kisinf (by assumption) _).mono ?_; rintro e wk ⟨rfl, rfl⟩)
    | (go_at_call 17; refine (kabs (by assumption) _).mono ?_; rintro e wk ⟨rfl, rfl⟩)
    | (go_at_call 19; refine (kneg (by assumption) _).mono ?_; rintro e wk ⟨rfl, rfl⟩)
    | (go_at_call 21; refine (knan _).mono ?_; rintro e wk ⟨rfl, rfl⟩)
    | (go_at_call 16; refine (ksqrt _ _).mono ?_; rintro e wk ⟨rfl, nk, rfl⟩)
    | (go_at_call 14; refine (kadd _ _ _).mono ?_; rintro e wk ⟨rfl, nk, rfl⟩)
    | (go_at_call 15; refine (ksub _ _ _).mono ?_; rintro e wk ⟨rfl, nk, rfl⟩)
    | (go_at_call 18; refine (kmul _ _ _).mono ?_; rintro e wk ⟨rfl, nk, rfl⟩)
    | (go_at_call 23; refine (kdiv _ _ _).mono ?_; rintro e wk ⟨rfl, nk, rfl⟩)
    | (go_at_call 33; refine (kfloor _ _).mono ?_; rintro e wk ⟨rfl, nk, rfl⟩)
    | (go_at_call 34; refine (kceil _ _).mono ?_; rintro e wk ⟨rfl, nk, rfl⟩)
    | (go_at_call 35; refine (ktrunc _ _).mono ?_; rintro e wk ⟨rfl, nk, rfl⟩)
    | (go_at_call 22; refine (kintL (n := 1) oneW (by decide +kernel) _).mono ?_; rintro e wk ⟨rfl, rfl⟩)
    | (go_at_call 12; refine (kcmp _ _ _).mono ?_; rintro e wk ⟨rfl, rfl⟩))
  go_ret
  exact ⟨rfl, _, rfl⟩

theorem finB (a : Nat) (ha : a < 2 ^ 64) (w : World) (hn : nanW a = false) (hi : isInfW a = false) (l0 : wayV .zero a < 2 ^ 64) (l1 : cmpC (wayV .down a) a ≤ 0) (l2 : cmpC a (wayV .up a) ≤ 0) (l3 : cmpC (opt (Ieee.double.sub (wayV .up a) (wayV .down a))) oneW ≤ 0) (l4 : wayV .down (wayV .down a) = wayV .down a) (l5 : wayV .up (wayV .down a) = wayV .down a) (l6 : wayV .zero (wayV .up a) = wayV .up a) (l7 : cmpC (absV (wayV .up a)) (absV a) ≤ 0) (l8 : wayV .zero a = wayV .up a) (l9 : wayV .up a < 2 ^ 64) (l10 : ((wayV .up a : Int) == (wayV .down a : Int)) = false) :
    Kn 8 #[wd a] w (.bool true) := by
  go_enter Try.func8, Try.ntmps8
  go_wp2_with (first
    | (go_at_call 13; refine (kknown _).mono ?_; rintro e wk ⟨rfl, nk, rfl⟩)
    | (go_at_call 20; refine (kisnan _ _).mono ?_; rintro e wk ⟨rfl, rfl⟩)
    | (go_at_call 24; refine (kisinf (by assumption) _).mono ?_; rintro e wk ⟨rfl, rfl⟩)
    | (go_at_call 17; refine (kabs (by assumption) _).mono ?_; rintro e wk ⟨rfl, rfl⟩)
    | (go_at_call 19; refine (kneg (by assumption) _).mono ?_; rintro e wk ⟨rfl, rfl⟩)
    | (go_at_call 21; refine (knan _).mono ?_; rintro e wk ⟨rfl, rfl⟩)
    | (go_at_call 16; refine (ksqrt _ _).mono ?_; rintro e wk ⟨rfl, nk, rfl⟩)
    | (go_at_call 14; refine (kadd _ _ _).mono ?_; rintro e wk ⟨rfl, nk, rfl⟩)
    | (go_at_call 15; refine (ksub _ _ _).mono ?_; rintro e wk ⟨rfl, nk, rfl⟩)
    | (go_at_call 18; refine (kmul _ _ _).mono ?_; rintro e wk ⟨rfl, nk, rfl⟩)
    | (go_at_call 23; refine (kdiv _ _ _).mono ?_; rintro e wk ⟨rfl, nk, rfl⟩)
    | (go_at_call 33; refine (kfloor _ _).mono ?_; rintro e wk ⟨rfl, nk, rfl⟩)
    | (go_at_call 34; refine (kceil _ _).mono ?_; rintro e wk ⟨rfl, nk, rfl⟩)
    | (go_at_call 35; refine (ktrunc _ _).mono ?_; rintro e wk ⟨rfl, nk, rfl⟩)
    | (go_at_call 22; refine (kintL (n := 1) oneW (by decide +kernel) _).mono ?_; rintro e wk ⟨rfl, rfl⟩)
    | (go_at_call 12; refine (kcmp _ _ _).mono ?_; rintro e wk ⟨rfl, rfl⟩))
  go_ret
  exact ⟨rfl, _, rfl⟩

theorem walkN (a : Nat) (ha : a < 2 ^ 64) (w : World) : Kn 8 #[wd a] w (.bool true) := by
  cases hn : nanW a
  · by_cases hi : rung a = infR
    · exact inf a ha w hn (by unfold isInfW; rw [hi]; decide) (wayV_inf ha hi) (wayV_inf ha hi) (wayV_inf ha hi)
    · have hf : rung a < infR := by have := nan_false hn; omega
      obtain ⟨l1, l2, l3, l4, l5, l6, l7, l8⟩ := steps_law hf
      have hii : isInfW a = false := by unfold isInfW; simpa using hi
      have hl : ∀ way, way ≠ .even → wayV way a < 2 ^ 64 := by
        intro way hw
        obtain ⟨r, h1, h2, _⟩ := wayV_fin hw hf
        have := infR_lt
        rw [h2]
        exact word_lt' (by omega)
      by_cases he : wayV .zero a = wayV .down a
      · exact finA a ha w hn hii (hl _ (by decide)) l1 l2 l3 l4 l5 l6 (by rw [← he]; exact l7) he (hl _ (by decide))
      · have h2 : wayV .zero a = wayV .up a := by rcases l8 with h | h; exact absurd h he; exact h
        exact finB a ha w hn hii (hl _ (by decide)) l1 l2 l3 l4 l5 l6 (by rw [← h2]; exact l7) h2 (hl _ (by decide)) (by rw [h2] at he; simpa using fun h : (wayV .up a : Int) = (wayV .down a : Int) => he (by omega))
  · have hi : isInfW a = false := by unfold isInfW; have := of_decide_eq_true hn; simp; omega
    exact nan a ha w hn hi (wayV_nan hn) (wayV_nan hn) (wayV_nan hn)
theorem walk (a0 : Int) (w : World) (w0 : (Lit.int .u64 a0).wf = true) :
    Calls Try.prog 8 #[.int .u64 a0] w fun e w' => e = .returned (.bool true) ∧ Below w.heap.size w w' := by
  obtain ⟨a, rfl, ha⟩ := of_wf64 w0
  refine (walkN a ha w).mono ?_
  rintro e w' ⟨rfl, n, rfl⟩
  exact ⟨rfl, rfl, rfl, rfl, Nat.le_refl _, fun _ _ => rfl⟩
end Go.Proofs.Ytoodbdjmbicaeaa.numSteps
