import Derived.Test.YtepjpdhmjchakaaGreatDoorQ3
import Derived.Test.YtepjpdhmjchakaaGreatDoorQ4
import Derived.Test.YtepjpdhmjchakaaGreatDoorP17
import Derived.LoopN
/- The document's change of steps. Condition: the document's list of buckets (BkAt). -/
namespace Go.Proofs.YtepjpdhmjchakaaGreatDoor
open Go.RowKit
set_option linter.unusedVariables false

/-- What change says. -/
def XcPost (w : World) (B at_ lo hi : Nat) (v : Value) (L : List Bool) (e : Ending) (w' : World) : Prop :=
  ∃ (x er a : Nat), x < 18446744073709551616 ∧ e = .returned (.tuple #[.int .u64 (x : Int), .int .u16 (er : Int)]) ∧ Xd w' B v a L lo hi ∧ Gro B none w w' ∧
      ((er = 0 ∧ Gz.chgD L at_ = some (x, a)) ∨ (er ≠ 0 ∧ Gz.chgD L at_ = none))

set_option maxHeartbeats 4000000 in
set_option maxRecDepth 100000 in
theorem xchange_c {lo hi : Nat} {w0 : World} {n B at_ : Nat} {v : Value} {L : List Bool} (h : Xd w0 B v at_ L lo hi) {b o c b0 o0 c0 b1 o1 c1 b2 o2 c2 : Nat} (hk : BkAt n w0 b o c b0 o0 c0 b1 o1 c1 b2 o2 c2) (hB : n ≤ B) :
    Calls Tryz.prog 84 #[.pointer (some ⟨B, 0, none⟩)] w0 fun e w' => XcPost w0 B at_ lo hi v L e w' := by
  have hBl := xheap_lt h.cells
  have HX0 := Lib.hid h
  have HK := Lib.hid hk
  have HG0 := Lib.hid (Gro.refl B none w0)
  have HBL := Lib.hid (show ∀ w', Gro B none w0 w' → Below n w0 w' from fun w' g => g.below (by omega) hB (by simp))
  clear h hk
  go_enter Tryz.func84, Tryz.ntmps84
  go_wp2_with fail
  refine wp_loop_rounds 5 ?_
  rw [rounds_succ]
  go_wp2_with fail
  refine Calls.mono (by exact xnext_c HX0.out 1 (by decide) _ rfl) ?_
  rintro e w1 ⟨x1, a1, er1, hl1, rfl, hx1, hg1, hc1⟩
  have HX1 := Lib.hid hx1
  have HG1 := Lib.hid (HG0.out.trans hg1 (Anew.refl _ _))
  clear hx1 hg1
  rcases hc1 with ⟨rfl, q1⟩ | ⟨rfl, q1, rfl, -⟩
  · rcases (by have := rdk_one q1; omega : x1 = 0 ∨ x1 = 1) with rfl | rfl
    · clear hl1
      have HE := Lib.hid (show Gz.chgD L at_ = some (0, a1) by
        unfold Gz.chgD
        rw [q1]
        simp only [Option.bind_some, if_true])
      clear q1
      go_wp2
      go_ret2
      exact ⟨0, 0, a1, by decide, rfl, HX1.out, HG1.out, .inl ⟨rfl, HE.out⟩⟩
    · clear hl1
      go_wp2_with fail
      rw [rounds_succ]
      go_wp2_with fail
      refine Calls.mono (by exact xnext_c HX1.out 1 (by decide) _ rfl) ?_
      rintro e w2 ⟨x2, a2, er2, hl2, rfl, hx2, hg2, hc2⟩
      have HX2 := Lib.hid hx2
      have HG2 := Lib.hid (HG1.out.trans hg2 (Anew.refl _ _))
      clear hx2 hg2
      rcases hc2 with ⟨rfl, q2⟩ | ⟨rfl, q2, rfl, -⟩
      · rcases (by have := rdk_one q2; omega : x2 = 0 ∨ x2 = 1) with rfl | rfl
        · have HK2 := Lib.hid (HK.out.below (HBL.out _ HG2.out))
          have y0 := HK2.out.g
          have y1 := HK2.out.s0
          have y2 := HK2.out.k04
          go_wp2_with fail
          refine Calls.mono (by exact xnext_c HX2.out 7 (by decide) _ rfl) ?_
          rintro e wz ⟨xz, az, erz, hlz, rfl, hxz, hgz, hcz⟩
          have HXZ := Lib.hid hxz
          have HGZ := Lib.hid (HG2.out.trans hgz (Anew.refl _ _))
          have y3 := (HK.out.below (HBL.out _ HGZ.out)).k02
          have hw : IntKind.u64.wrap ((xz : Int) + 18446744073709551553) = (((xz + 18446744073709551553) % 18446744073709551616 : Nat) : Int) := by rw [IntKind.wrap_u64]; omega
          have HC := Lib.hid hcz
          have HE := Lib.hid (show (erz = 0 ∧ Gz.chgD L at_ = some ((xz + 18446744073709551553) % 18446744073709551616, az)) ∨ (erz ≠ 0 ∧ Gz.chgD L at_ = none) by
            rcases HC.out with ⟨h1, h2⟩ | ⟨h1, h2, _, _⟩
            · refine .inl ⟨h1, ?_⟩
              unfold Gz.chgD
              rw [q1]
              simp only [Option.bind_some]
              rw [if_neg (by decide)]
              rw [q2]
              simp only [Option.bind_some, if_true]
              rw [h2]
              rfl
            · refine .inr ⟨by omega, ?_⟩
              unfold Gz.chgD
              rw [q1]
              simp only [Option.bind_some]
              rw [if_neg (by decide)]
              rw [q2]
              simp only [Option.bind_some, if_true]
              rw [h2]
              rfl)
          clear hxz hgz hcz y0 y1 y2 q1 q2
          go_wp2
          go_ret2
          exact ⟨(xz + 18446744073709551553) % 18446744073709551616, erz, az, Nat.mod_lt _ (by decide), congrArg (fun z => Ending.returned (.tuple #[.int .u64 z, .int .u16 (erz : Int)])) hw, HXZ.out, HGZ.out, HE.out⟩
        · clear hl2
          go_wp2_with fail
          rw [rounds_succ]
          go_wp2_with fail
          refine Calls.mono (by exact xnext_c HX2.out 1 (by decide) _ rfl) ?_
          rintro e w3 ⟨x3, a3, er3, hl3, rfl, hx3, hg3, hc3⟩
          have HX3 := Lib.hid hx3
          have HG3 := Lib.hid (HG2.out.trans hg3 (Anew.refl _ _))
          clear hx3 hg3
          rcases hc3 with ⟨rfl, q3⟩ | ⟨rfl, q3, rfl, -⟩
          · rcases (by have := rdk_one q3; omega : x3 = 0 ∨ x3 = 1) with rfl | rfl
            · have HK3 := Lib.hid (HK.out.below (HBL.out _ HG3.out))
              have y0 := HK3.out.g
              have y1 := HK3.out.s1
              have y2 := HK3.out.k14
              go_wp2_with fail
              refine Calls.mono (by exact xnext_c HX3.out 9 (by decide) _ rfl) ?_
              rintro e wz ⟨xz, az, erz, hlz, rfl, hxz, hgz, hcz⟩
              have HXZ := Lib.hid hxz
              have HGZ := Lib.hid (HG3.out.trans hgz (Anew.refl _ _))
              have y3 := (HK.out.below (HBL.out _ HGZ.out)).k12
              have hw : IntKind.u64.wrap ((xz : Int) + 18446744073709551361) = (((xz + 18446744073709551361) % 18446744073709551616 : Nat) : Int) := by rw [IntKind.wrap_u64]; omega
              have HC := Lib.hid hcz
              have HE := Lib.hid (show (erz = 0 ∧ Gz.chgD L at_ = some ((xz + 18446744073709551361) % 18446744073709551616, az)) ∨ (erz ≠ 0 ∧ Gz.chgD L at_ = none) by
                rcases HC.out with ⟨h1, h2⟩ | ⟨h1, h2, _, _⟩
                · refine .inl ⟨h1, ?_⟩
                  unfold Gz.chgD
                  rw [q1]
                  simp only [Option.bind_some]
                  rw [if_neg (by decide)]
                  rw [q2]
                  simp only [Option.bind_some]
                  rw [if_neg (by decide)]
                  rw [q3]
                  simp only [Option.bind_some, if_true]
                  rw [h2]
                  rfl
                · refine .inr ⟨by omega, ?_⟩
                  unfold Gz.chgD
                  rw [q1]
                  simp only [Option.bind_some]
                  rw [if_neg (by decide)]
                  rw [q2]
                  simp only [Option.bind_some]
                  rw [if_neg (by decide)]
                  rw [q3]
                  simp only [Option.bind_some, if_true]
                  rw [h2]
                  rfl)
              clear hxz hgz hcz y0 y1 y2 q1 q2 q3
              go_wp2
              go_ret2
              exact ⟨(xz + 18446744073709551361) % 18446744073709551616, erz, az, Nat.mod_lt _ (by decide), congrArg (fun z => Ending.returned (.tuple #[.int .u64 z, .int .u16 (erz : Int)])) hw, HXZ.out, HGZ.out, HE.out⟩
            · clear hl3
              go_wp2_with fail
              rw [rounds_succ]
              go_wp2_with fail
              refine Calls.mono (by exact xnext_c HX3.out 1 (by decide) _ rfl) ?_
              rintro e w4 ⟨x4, a4, er4, hl4, rfl, hx4, hg4, hc4⟩
              have HX4 := Lib.hid hx4
              have HG4 := Lib.hid (HG3.out.trans hg4 (Anew.refl _ _))
              clear hx4 hg4
              rcases hc4 with ⟨rfl, q4⟩ | ⟨rfl, q4, rfl, -⟩
              · rcases (by have := rdk_one q4; omega : x4 = 0 ∨ x4 = 1) with rfl | rfl
                · have HK4 := Lib.hid (HK.out.below (HBL.out _ HG4.out))
                  have y0 := HK4.out.g
                  have y1 := HK4.out.s2
                  have y2 := HK4.out.k24
                  go_wp2_with fail
                  refine Calls.mono (by exact xnext_c HX4.out 12 (by decide) _ rfl) ?_
                  rintro e wz ⟨xz, az, erz, hlz, rfl, hxz, hgz, hcz⟩
                  have HXZ := Lib.hid hxz
                  have HGZ := Lib.hid (HG4.out.trans hgz (Anew.refl _ _))
                  have y3 := (HK.out.below (HBL.out _ HGZ.out)).k22
                  have hw : IntKind.u64.wrap ((xz : Int) + 18446744073709549569) = (((xz + 18446744073709549569) % 18446744073709551616 : Nat) : Int) := by rw [IntKind.wrap_u64]; omega
                  have HC := Lib.hid hcz
                  have HE := Lib.hid (show (erz = 0 ∧ Gz.chgD L at_ = some ((xz + 18446744073709549569) % 18446744073709551616, az)) ∨ (erz ≠ 0 ∧ Gz.chgD L at_ = none) by
                    rcases HC.out with ⟨h1, h2⟩ | ⟨h1, h2, _, _⟩
                    · refine .inl ⟨h1, ?_⟩
                      unfold Gz.chgD
                      rw [q1]
                      simp only [Option.bind_some]
                      rw [if_neg (by decide)]
                      rw [q2]
                      simp only [Option.bind_some]
                      rw [if_neg (by decide)]
                      rw [q3]
                      simp only [Option.bind_some]
                      rw [if_neg (by decide)]
                      rw [q4]
                      simp only [Option.bind_some, if_true]
                      rw [h2]
                      rfl
                    · refine .inr ⟨by omega, ?_⟩
                      unfold Gz.chgD
                      rw [q1]
                      simp only [Option.bind_some]
                      rw [if_neg (by decide)]
                      rw [q2]
                      simp only [Option.bind_some]
                      rw [if_neg (by decide)]
                      rw [q3]
                      simp only [Option.bind_some]
                      rw [if_neg (by decide)]
                      rw [q4]
                      simp only [Option.bind_some, if_true]
                      rw [h2]
                      rfl)
                  clear hxz hgz hcz y0 y1 y2 q1 q2 q3 q4
                  go_wp2
                  go_ret2
                  exact ⟨(xz + 18446744073709549569) % 18446744073709551616, erz, az, Nat.mod_lt _ (by decide), congrArg (fun z => Ending.returned (.tuple #[.int .u64 z, .int .u16 (erz : Int)])) hw, HXZ.out, HGZ.out, HE.out⟩
                · clear hl4
                  go_wp2_with fail
                  rw [rounds_succ]
                  go_wp2_with fail
                  refine Calls.mono (by exact xnext_c HX4.out 64 (by decide) _ rfl) ?_
                  rintro e wz ⟨xz, az, erz, hlz, rfl, hxz, hgz, hcz⟩
                  have HXZ := Lib.hid hxz
                  have HGZ := Lib.hid (HG4.out.trans hgz (Anew.refl _ _))
                  have HC := Lib.hid hcz
                  have HE := Lib.hid (show (erz = 0 ∧ Gz.chgD L at_ = some (xz, az)) ∨ (erz ≠ 0 ∧ Gz.chgD L at_ = none) by
                    rcases HC.out with ⟨h1, h2⟩ | ⟨h1, h2, _, _⟩
                    · refine .inl ⟨h1, ?_⟩
                      unfold Gz.chgD
                      rw [q1]
                      simp only [Option.bind_some]
                      rw [if_neg (by decide)]
                      rw [q2]
                      simp only [Option.bind_some]
                      rw [if_neg (by decide)]
                      rw [q3]
                      simp only [Option.bind_some]
                      rw [if_neg (by decide)]
                      rw [q4]
                      simp only [Option.bind_some]
                      rw [if_neg (by decide)]
                      exact h2
                    · refine .inr ⟨by omega, ?_⟩
                      unfold Gz.chgD
                      rw [q1]
                      simp only [Option.bind_some]
                      rw [if_neg (by decide)]
                      rw [q2]
                      simp only [Option.bind_some]
                      rw [if_neg (by decide)]
                      rw [q3]
                      simp only [Option.bind_some]
                      rw [if_neg (by decide)]
                      rw [q4]
                      simp only [Option.bind_some]
                      rw [if_neg (by decide)]
                      exact h2)
                  clear hxz hgz hcz q1 q2 q3 q4
                  go_wp2
                  go_ret2
                  exact ⟨xz, erz, az, hlz, rfl, HXZ.out, HGZ.out, HE.out⟩
              · have HE := Lib.hid (show Gz.chgD L at_ = none by
                  unfold Gz.chgD
                  rw [q1]
                  simp only [Option.bind_some]
                  rw [if_neg (by decide)]
                  rw [q2]
                  simp only [Option.bind_some]
                  rw [if_neg (by decide)]
                  rw [q3]
                  simp only [Option.bind_some]
                  rw [if_neg (by decide)]
                  rw [q4]
                  rfl)
                clear q1 q2 q3 q4
                go_wp2
                go_ret2
                exact ⟨0, 20, _, by decide, rfl, HX4.out, HG4.out, .inr ⟨by decide, HE.out⟩⟩
          · have HE := Lib.hid (show Gz.chgD L at_ = none by
              unfold Gz.chgD
              rw [q1]
              simp only [Option.bind_some]
              rw [if_neg (by decide)]
              rw [q2]
              simp only [Option.bind_some]
              rw [if_neg (by decide)]
              rw [q3]
              rfl)
            clear q1 q2 q3
            go_wp2
            go_ret2
            exact ⟨0, 20, _, by decide, rfl, HX3.out, HG3.out, .inr ⟨by decide, HE.out⟩⟩
      · have HE := Lib.hid (show Gz.chgD L at_ = none by
          unfold Gz.chgD
          rw [q1]
          simp only [Option.bind_some]
          rw [if_neg (by decide)]
          rw [q2]
          rfl)
        clear q1 q2
        go_wp2
        go_ret2
        exact ⟨0, 20, _, by decide, rfl, HX2.out, HG2.out, .inr ⟨by decide, HE.out⟩⟩
  · have HE := Lib.hid (show Gz.chgD L at_ = none by
      unfold Gz.chgD
      rw [q1]
      rfl)
    clear q1
    go_wp2
    go_ret2
    exact ⟨0, 20, _, by decide, rfl, HX1.out, HG1.out, .inr ⟨by decide, HE.out⟩⟩
end Go.Proofs.YtepjpdhmjchakaaGreatDoor
