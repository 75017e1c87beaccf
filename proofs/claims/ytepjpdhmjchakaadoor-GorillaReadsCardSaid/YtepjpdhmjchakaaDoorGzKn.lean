/- What the chapter's examples fix: known returns true. Condition: the library's table of trailing noughts (TabW). -/
import Derived.Test.YtepjpdhmjchakaaDoorGz6
import Derived.Test.YtepjpdhmjchakaaDoorGzEq
namespace Go.Proofs.YtepjpdhmjchakaaDoor
open Go.RowKit
set_option linter.unusedVariables false

/-- Append of an appender of the call's own. -/
theorem app_own (n : Nat) {w : World} {P B : Nat} {r : Option Nat} {a : Gz.Ap} (h : Apm w P B r a) (hok : a.ok) (s : Gz.Smp) (x y : Int) (hx : s.t = x) (hy : (s.v : Int) = y) (hv : s.v < 18446744073709551616) (hT : TabW w) (hP : n ≤ P) (hB : n ≤ B) (hr : ∀ k, r = some k → n ≤ k) (h1 : 1 < n) (a' : Gz.Ap) (E : Int) (he : a.app s = (a', E)) :
    Calls Tryd.prog 9 #[.pointer (some ⟨P, 0, none⟩), .agg #[.int .i64 x, .int .u64 y]] w fun e w' => e = .returned (.int .u16 E) ∧ ∃ r', Apm w' P B r' a' ∧ Below n w w' ∧ (∀ k, r' = some k → n ≤ k) ∧ TabW w' := by
  subst hx hy
  have hnw : n ≤ w.heap.size := by have := h.lts.1; omega
  refine (app_any h hok s hv hT (by omega) (by omega) (fun e => by have := hr 1 e; omega)).mono ?_
  rintro e w' ⟨rfl, r', h2, h3, h4⟩
  rw [he] at h2 ⊢
  have hb := h3.below hnw hP hB hr
  refine ⟨rfl, r', h2, hb, fun k hk => ?_, hT.below hb h1⟩
  rcases h4 k hk with h5 | h5
  · exact hr k h5
  · omega

namespace Gz
def ks0 : Smp := ⟨0, 4607182418800017408⟩
def ks1 : Smp := ⟨10, 4607182418800017408⟩
def ks2 : Smp := ⟨20, 4607182418800017408⟩
def ks3 : Smp := ⟨20, 4611686018427387904⟩
theorem kn0 : Ap.new.app ks0 = (Ap.all [ks0], 0) := by unfold Ap.app; rw [if_neg (by decide +kernel), if_neg (by decide +kernel), if_neg (by decide +kernel)]; rfl
theorem kn1 : (Ap.all [ks0]).app ks1 = (Ap.all [ks0, ks1], 0) := by unfold Ap.app; rw [if_neg (by decide +kernel), if_neg (by decide +kernel), if_neg (by decide +kernel)]; rfl
theorem kn2 : (Ap.all [ks0, ks1]).app ks2 = (Ap.all [ks0, ks1, ks2], 0) := by unfold Ap.app; rw [if_neg (by decide +kernel), if_neg (by decide +kernel), if_neg (by decide +kernel)]; rfl
theorem kn3 : (Ap.all [ks0, ks1, ks2]).app ks3 = (Ap.all [ks0, ks1, ks2], 100) := by unfold Ap.app; rw [if_neg (by decide +kernel), if_pos (by decide +kernel)]
theorem knf : (Ap.all [ks0, ks1, ks2]).t = 20 ∧ (Ap.all [ks0, ks1, ks2]).n = 3 := by decide +kernel
theorem knok (l : List Smp) (h : l = [ks0] ∨ l = [ks0, ks1] ∨ l = [ks0, ks1, ks2]) : (Ap.all l).ok := by
  refine all_ok ⟨?_, ?_, ?_⟩ <;> rcases h with rfl | rfl | rfl
  · decide +kernel
  · decide +kernel
  · decide +kernel
  · intro i a b ha hb; rcases i with _ | i <;> simp at hb
  · intro i a b ha hb; rcases i with _ | _ | i <;> simp at ha hb; subst ha hb; decide
  · intro i a b ha hb; rcases i with _ | _ | _ | i <;> simp at ha hb <;> subst ha hb <;> decide
  · decide
  · decide
  · decide
theorem knb : Bt.pack (Ap.all [ks0, ks1, ks2]).L = [0, 63, 240, 0, 0, 0, 0, 0, 0, 10, 0] := by decide +kernel
end Gz

set_option maxHeartbeats 2000000 in
set_option maxRecDepth 100000 in
theorem gzKnown_any (w : World) (hT : TabW w) : Calls Tryd.prog 8 #[] w fun e w' => e = .returned (.bool true) ∧ Below w.heap.size w w' := by
  have hlb : 1 < w.heap.size := block_lt_of_cell (hT 0 (by omega))
  have HT := Lib.hid hT
  clear hT
  go_enter Tryd.func8, Tryd.ntmps8
  go_wp2_with fail
  refine (gnew_any _).mono ?_
  rintro e w1 ⟨rfl, ha1, hb1⟩
  have HA1 := Lib.hid ha1
  have HB1 := Lib.hid hb1
  have HT1 := Lib.hid (HT.out.below hb1 hlb)
  clear ha1 hb1
  go_wp2_with fail
  refine Calls.mono (by exact app_own w.heap.size HA1.out Gz.Ap.new_ok Gz.ks0 0 4607182418800017408 (by decide) (by decide +kernel) (by decide +kernel) HT1.out (by omega) (Nat.le_refl _) (by simp) hlb _ _ Gz.kn0) ?_
  rintro e w2 ⟨rfl, r2, ha2, hb2, hr2, ht2⟩
  have HA2 := Lib.hid ha2
  have HB2 := Lib.hid (HB1.out.trans hb2)
  have HT2 := Lib.hid ht2
  have HR2 := Lib.hid hr2
  clear ha2 hb2 hr2 ht2
  go_wp2_with fail
  refine Calls.mono (by exact app_own w.heap.size HA2.out (Gz.knok _ (.inl rfl)) Gz.ks1 10 4607182418800017408 (by decide) (by decide +kernel) (by decide +kernel) HT2.out (by omega) (Nat.le_refl _) HR2.out hlb _ _ Gz.kn1) ?_
  rintro e w3 ⟨rfl, r3, ha3, hb3, hr3, ht3⟩
  have HA3 := Lib.hid ha3
  have HB3 := Lib.hid (HB2.out.trans hb3)
  have HT3 := Lib.hid ht3
  have HR3 := Lib.hid hr3
  clear ha3 hb3 hr3 ht3
  go_wp2_with fail
  refine Calls.mono (by exact app_own w.heap.size HA3.out (Gz.knok _ (.inr (.inl rfl))) Gz.ks2 20 4607182418800017408 (by decide) (by decide +kernel) (by decide +kernel) HT3.out (by omega) (Nat.le_refl _) HR3.out hlb _ _ Gz.kn2) ?_
  rintro e w4 ⟨rfl, r4, ha4, hb4, hr4, ht4⟩
  have HA4 := Lib.hid ha4
  have HB4 := Lib.hid (HB3.out.trans hb4)
  have HT4 := Lib.hid ht4
  have HR4 := Lib.hid hr4
  clear ha4 hb4 hr4 ht4
  go_wp2_with fail
  refine Calls.mono (by exact app_own w.heap.size HA4.out (Gz.knok _ (.inr (.inr rfl))) Gz.ks3 20 4611686018427387904 (by decide) (by decide +kernel) (by decide +kernel) HT4.out (by omega) (Nat.le_refl _) HR4.out hlb _ _ Gz.kn3) ?_
  rintro e w5 ⟨rfl, r5, ha5, hb5, hr5, ht5⟩
  have HA5 := Lib.hid ha5
  have HB5 := Lib.hid (HB4.out.trans hb5)
  clear ha5 hb5 hr5 ht5
  go_wp2_with fail
  refine (chunk_any HA5.out (Gz.knok _ (.inr (.inr rfl))) (by decide +kernel)).mono ?_
  rintro e w6 ⟨v6, rfl, ho6, hb6⟩
  rw [Gz.knf.1, Gz.knf.2]
  rw [Gz.knb] at ho6
  unfold chV
  obtain ⟨ao6, cap6, rfl⟩ := own_slice ho6
  have HO6 := Lib.hid ho6
  have HB6 := Lib.hid (HB5.out.trans (hb6.mono HB5.out.size))
  clear ho6 hb6
  obtain ⟨ao7, cap7, hv7, hc7⟩ := Sl.owns (f := f8) HO6.out (by decide)
  injection hv7 with q1 q2 q3
  subst q1 q3
  generalize (Gz.Ap.all [Gz.ks0, Gz.ks1, Gz.ks2]).first = F at *
  have kk : (convert 71 9 (.slice ao6 11 cap6)).run Tryd.prog (w6.alloc (.cells #[.int .i64 F, .int .i64 20, .int .i64 3, .slice ao6 11 cap6] 73)) = .ok (.string ⟨#[0, 63, 240, 0, 0, 0, 0, 0, 0, 10, 0]⟩) (w6.alloc (.cells #[.int .i64 F, .int .i64 20, .int .i64 3, .slice ao6 11 cap6] 73)) :=
    conv_sl (hc7.below (B := w6.heap.size) ((Below.refl _ _).alloc (Nat.le_refl _) _) (Nat.le_refl _))
  clear hc7
  go_wp2_with fail
  go_ret
  exact ⟨rfl, HB6.out.alloc HB6.out.size _⟩
end Go.Proofs.YtepjpdhmjchakaaDoor
