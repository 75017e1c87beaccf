import Derived.Test.YtepjpdhmjchakaaGreatDoorP16
/- The reader's number. -/
namespace Go.Proofs.YtepjpdhmjchakaaGreatDoor
open Go.RowKit
set_option linter.unusedVariables false

theorem gbits_some' {w : World} {Q B at_ lo hi step : Nat} {v : Value} {l : List UInt8} {is : Bool} {wl wr : Int} (h : Rg w Q B v at_ l lo hi false step wl wr is) (n : Nat) (hn : n ≤ 64) {x b : Nat} (hq : Gz.rdk (Bt.unpack l) at_ n = some (x, b)) (m : Int) (hm : m = (n : Int)) :
    Calls Tryz.prog 95 #[.pointer (some ⟨Q, 0, none⟩), .int .i64 m] w fun e w' => e = .returned (.int .u64 (x : Int)) ∧ Rg w' Q B v b l lo hi false step wl wr is ∧ Ga Q B none w w' := by
  subst hm
  exact gbits_some h n hn hq
theorem gbits_none' {w : World} {Q B at_ lo hi step : Nat} {v : Value} {l : List UInt8} {is : Bool} {wl wr : Int} (h : Rg w Q B v at_ l lo hi false step wl wr is) (n : Nat) (hn : n ≤ 64) (hq : Gz.rdk (Bt.unpack l) at_ n = none) (m : Int) (hm : m = (n : Int)) :
    Calls Tryz.prog 95 #[.pointer (some ⟨Q, 0, none⟩), .int .i64 m] w fun e w' => ∃ y : Nat, e = .returned (.int .u64 (y : Int)) ∧ Rg w' Q B v at_ l lo hi true step wl wr is ∧ Ga Q B none w w' := by
  subst hm
  exact (gbits_none h n hn hq).mono fun e w' ⟨h1, h2⟩ => ⟨0, h1, h2⟩
/-- What number says. -/
def NumBad (w : World) (Q B lo hi step : Nat) (v : Value) (l : List UInt8) (is : Bool) (e : Ending) (w' : World) : Prop :=
  ∃ x c wl' wr', x < 18446744073709551616 ∧ e = .returned (.int .u64 ((x : Nat) : Int)) ∧ Rg w' Q B v c l lo hi true step wl' wr' is ∧ Ga Q B none w w'
def NumPost (w : World) (Q B at_ lo hi step a b : Nat) (v : Value) (l : List UInt8) (is : Bool) (e : Ending) (w' : World) : Prop :=
  (∃ d a' b' c, Gz.numD (Bt.unpack l) (a, b) at_ = some (d, (a', b'), c) ∧ d < 18446744073709551616 ∧ e = .returned (.int .u64 (d : Int)) ∧ Rg w' Q B v c l lo hi false step (a' : Int) (b' : Int) is ∧ a' + b' ≤ 63 ∧ Ga Q B none w w') ∨
  (Gz.numD (Bt.unpack l) (a, b) at_ = none ∧ ∃ x c wl wr, x < 18446744073709551616 ∧ e = .returned (.int .u64 ((x : Nat) : Int)) ∧ Rg w' Q B v c l lo hi true step wl wr is ∧ Ga Q B none w w')

theorem shl_end (y b : Nat) : Ending.returned (Value.int .u64 (IntKind.u64.wrap ((y : Int) * 2 ^ b))) = Ending.returned (Value.int .u64 ((y * 2 ^ b % 18446744073709551616 : Nat) : Int)) := by
  refine congrArg (fun z => Ending.returned (Value.int .u64 z)) ?_
  rw [IntKind.wrap_u64, Int.natCast_emod, Int.natCast_mul, Int.natCast_pow]
  rfl
theorem wrap0 : IntKind.u64.wrap 0 = 0 := by rw [IntKind.wrap_u64]; exact Int.zero_emod _
theorem row_set3 {w : World} {Q : Nat} {x0 x1 x2 x3 x4 x5 : Value} {t : TypeId} (X : Value) (h : w.heap[Q]? = some (.cells #[x0, x1, x2, x3, x4, x5] t (0, 0))) : (w.setCell ⟨Q, 4, none⟩ X).cell? ⟨Q, 3, none⟩ = some x3 := (cell_of_row _ _ _ _ _ _ (heap_setCell_same _ _ _ _ _ _ h)).trans rfl
theorem row_set1 {w : World} {Q : Nat} {x0 x1 x2 x3 x4 x5 : Value} {t : TypeId} (X : Value) (h : w.heap[Q]? = some (.cells #[x0, x1, x2, x3, x4, x5] t (0, 0))) : (w.setCell ⟨Q, 4, none⟩ X).cell? ⟨Q, 1, none⟩ = some x1 := (cell_of_row _ _ _ _ _ _ (heap_setCell_same _ _ _ _ _ _ h)).trans rfl
theorem row_set4 {w : World} {Q : Nat} {x0 x1 x2 x3 x4 x5 : Value} {t : TypeId} (X : Value) (h : w.heap[Q]? = some (.cells #[x0, x1, x2, x3, x4, x5] t (0, 0))) : (w.setCell ⟨Q, 4, none⟩ X).cell? ⟨Q, 4, none⟩ = some X := (cell_of_row _ _ _ _ _ _ (heap_setCell_same _ _ _ _ _ _ h)).trans rfl
theorem rdk_lt' {U : List Bool} {a n x b : Nat} (h : Gz.rdk U a n = some (x, b)) : x < 2 ^ n := by
  unfold Gz.rdk at h
  split at h
  · cases h
  · injection h with h
    injection h with h _
    rw [← h]
    exact Nat.lt_of_lt_of_le (Bt.val_lt _) (Nat.pow_le_pow_right (by decide) (List.length_take_le _ _))
theorem rdk_32 {U : List Bool} {a x b : Nat} (h : Gz.rdk U a 5 = some (x, b)) : x < 32 := rdk_lt' h
theorem rdk_64 {U : List Bool} {a x b : Nat} (h : Gz.rdk U a 6 = some (x, b)) : x < 64 := rdk_lt' h
theorem rdk_one {U : List Bool} {a x b : Nat} (h : Gz.rdk U a 1 = some (x, b)) : x ≤ 1 := by
  unfold Gz.rdk at h
  split at h
  · cases h
  · injection h with h
    injection h with h _
    rw [← h]
    have h1 := Bt.val_lt ((U.drop a).take 1)
    have h2 : 2 ^ ((U.drop a).take 1).length ≤ 2 ^ 1 := Nat.pow_le_pow_right (by decide) (List.length_take_le _ _)
    omega
set_option maxHeartbeats 2000000 in
set_option maxRecDepth 100000 in
theorem num_n1 {w0 : World} {Q B at_ lo hi step a b : Nat} {v : Value} {l : List UInt8} {is : Bool} (h : Rg w0 Q B v at_ l lo hi false step (a : Int) (b : Int) is) (hab : a + b ≤ 63) (q1 : Gz.rdk (Bt.unpack l) at_ 1 = none) :
    Calls Tryz.prog 98 #[.pointer (some ⟨Q, 0, none⟩)] w0 fun e w' => NumPost w0 Q B at_ lo hi step a b v l is e w' := by
  have gneg : decide (((b : Nat) : Int) < 0) = false := decide_eq_false (by omega)
  have HR0 := Lib.hid h
  have HG0 := Lib.hid (Ga.refl Q B none w0)
  clear h
  go_enter Tryz.func98, Tryz.ntmps98
  go_wp2_with fail
  refine (gbits_none HR0.out 1 (by decide) q1).mono ?_
  rintro e w1 ⟨rfl, hr1, hg1⟩
  have HR1 := Lib.hid hr1
  have HG1 := Lib.hid (HG0.out.trans hg1 (Anew.refl _ _))
  obtain ⟨c10, c11, c12, c13, c14, c15, c1z⟩ := HR1.out.cell
  clear hr1 hg1
  go_wp2_with fail
  go_ret
  exact .inr ⟨by unfold Gz.numD; rw [q1]; rfl, 0, at_, _, _, by decide, rfl, HR1.out, HG1.out⟩
set_option maxHeartbeats 2000000 in
set_option maxRecDepth 100000 in
theorem num_z1 {w0 : World} {Q B at_ lo hi step a b : Nat} {v : Value} {l : List UInt8} {is : Bool} (h : Rg w0 Q B v at_ l lo hi false step (a : Int) (b : Int) is) (hab : a + b ≤ 63) {a1 : Nat} (q1 : Gz.rdk (Bt.unpack l) at_ 1 = some (0, a1)) :
    Calls Tryz.prog 98 #[.pointer (some ⟨Q, 0, none⟩)] w0 fun e w' => NumPost w0 Q B at_ lo hi step a b v l is e w' := by
  have gneg : decide (((b : Nat) : Int) < 0) = false := decide_eq_false (by omega)
  have HR0 := Lib.hid h
  have HG0 := Lib.hid (Ga.refl Q B none w0)
  clear h
  go_enter Tryz.func98, Tryz.ntmps98
  go_wp2_with fail
  refine (gbits_some HR0.out 1 (by decide) q1).mono ?_
  rintro e w1 ⟨rfl, hr1, hg1⟩
  have HR1 := Lib.hid hr1
  have HG1 := Lib.hid (HG0.out.trans hg1 (Anew.refl _ _))
  obtain ⟨c10, c11, c12, c13, c14, c15, c1z⟩ := HR1.out.cell
  clear hr1 hg1
  go_wp2_with fail
  go_ret
  exact .inl ⟨0, a, b, a1, by unfold Gz.numD; rw [q1]; rfl, by decide, rfl, HR1.out, hab, HG1.out⟩
set_option maxHeartbeats 2000000 in
set_option maxRecDepth 100000 in
theorem num_n2 {w0 : World} {Q B at_ lo hi step a b : Nat} {v : Value} {l : List UInt8} {is : Bool} (h : Rg w0 Q B v at_ l lo hi false step (a : Int) (b : Int) is) (hab : a + b ≤ 63) {x1 a1 : Nat} (q1 : Gz.rdk (Bt.unpack l) at_ 1 = some (x1, a1)) (z1 : x1 ≠ 0) (q2 : Gz.rdk (Bt.unpack l) a1 1 = none) :
    Calls Tryz.prog 98 #[.pointer (some ⟨Q, 0, none⟩)] w0 fun e w' => NumPost w0 Q B at_ lo hi step a b v l is e w' := by
  have g1 : ((x1 : Int) == 0) = false := by simp; omega
  have gneg : decide (((b : Nat) : Int) < 0) = false := decide_eq_false (by omega)
  have HR0 := Lib.hid h
  have HG0 := Lib.hid (Ga.refl Q B none w0)
  clear h
  go_enter Tryz.func98, Tryz.ntmps98
  go_wp2_with fail
  refine (gbits_some HR0.out 1 (by decide) q1).mono ?_
  rintro e w1 ⟨rfl, hr1, hg1⟩
  have HR1 := Lib.hid hr1
  have HG1 := Lib.hid (HG0.out.trans hg1 (Anew.refl _ _))
  obtain ⟨c10, c11, c12, c13, c14, c15, c1z⟩ := HR1.out.cell
  clear hr1 hg1
  go_wp2_with fail
  refine (gbits_none HR1.out 1 (by decide) q2).mono ?_
  rintro e w2 ⟨rfl, hr2, hg2⟩
  have HR2 := Lib.hid hr2
  have HG2 := Lib.hid (HG1.out.trans hg2 (Anew.refl _ _))
  obtain ⟨c20, c21, c22, c23, c24, c25, c2z⟩ := HR2.out.cell
  clear hr2 hg2
  go_wp2_with fail
  go_ret
  exact .inr ⟨by
      unfold Gz.numD
      rw [q1]
      simp only [Option.bind_some]
      rw [if_neg z1]
      rw [q2]
      rfl, 0, a1, _, _, by decide, rfl, HR2.out.set 1 _ rfl, HG2.out.trans (Ga.setQ 1 _) (Anew.refl _ _)⟩
set_option maxHeartbeats 2000000 in
set_option maxRecDepth 100000 in
theorem num_z2s {w0 : World} {Q B at_ lo hi step a b : Nat} {v : Value} {l : List UInt8} {is : Bool} (h : Rg w0 Q B v at_ l lo hi false step (a : Int) (b : Int) is) (hab : a + b ≤ 63) {x1 a1 : Nat} (q1 : Gz.rdk (Bt.unpack l) at_ 1 = some (x1, a1)) (z1 : x1 ≠ 0) {a2 : Nat} (q2 : Gz.rdk (Bt.unpack l) a1 1 = some (0, a2)) {y c : Nat} (qy : Gz.rdk (Bt.unpack l) a2 (64 - a - b) = some (y, c)) :
    Calls Tryz.prog 98 #[.pointer (some ⟨Q, 0, none⟩)] w0 fun e w' => NumPost w0 Q B at_ lo hi step a b v l is e w' := by
  have g1 : ((x1 : Int) == 0) = false := by simp; omega
  have gneg : decide (((b : Nat) : Int) < 0) = false := decide_eq_false (by omega)
  have HR0 := Lib.hid h
  have HG0 := Lib.hid (Ga.refl Q B none w0)
  clear h
  go_enter Tryz.func98, Tryz.ntmps98
  go_wp2_with fail
  refine (gbits_some HR0.out 1 (by decide) q1).mono ?_
  rintro e w1 ⟨rfl, hr1, hg1⟩
  have HR1 := Lib.hid hr1
  have HG1 := Lib.hid (HG0.out.trans hg1 (Anew.refl _ _))
  obtain ⟨c10, c11, c12, c13, c14, c15, c1z⟩ := HR1.out.cell
  clear hr1 hg1
  go_wp2_with fail
  refine (gbits_some HR1.out 1 (by decide) q2).mono ?_
  rintro e w2 ⟨rfl, hr2, hg2⟩
  have HR2 := Lib.hid hr2
  have HG2 := Lib.hid (HG1.out.trans hg2 (Anew.refl _ _))
  obtain ⟨c20, c21, c22, c23, c24, c25, c2z⟩ := HR2.out.cell
  clear hr2 hg2
  go_wp2_with fail
  go_region_held3 (fun w' => w'.cell? ⟨Q, 3, none⟩ = some (.int .i64 (a : Int)) ∧ w'.cell? ⟨Q, 4, none⟩ = some (.int .i64 (b : Int)) ∧ w'.cell? ⟨Q, 5, none⟩ = some (.bool is)) (first | assumption | exact ⟨by assumption, by assumption, by assumption⟩) (first
    | (go_at_call 92; refine (many_any _ (a : Int) (b : Int) is (by omega) (by omega)).mono ?_; rintro e w7 ⟨rfl, hb7⟩; have hr7 := (HR2.out.below (drew_b _)).below hb7; obtain ⟨-, -, -, d3, d4, d5, -⟩ := hr7.cell; have HR7 := Lib.hid hr7; have HG7 := Lib.hid ((HG2.out.trans (Ga.ofBelow (drew_b _)) (Anew.refl _ _)).trans (Ga.ofBelow hb7) (Anew.refl _ _)); clear hr7 hb7)
    | (go_at_call 95; refine (gbits_some' HR7.out (64 - a - b) (by omega) qy _ (by omega)).mono ?_; rintro e w8 ⟨rfl, hr8, hg8⟩; obtain ⟨-, -, -, e3, e4, e5, -⟩ := hr8.cell; have HR8 := Lib.hid hr8; have HG8 := Lib.hid (HG7.out.trans hg8 (Anew.refl _ _)); clear hr8 hg8))
  go_wp2
  go_ret
  exact .inl ⟨y * 2 ^ b % 18446744073709551616, a, b, c, by
      unfold Gz.numD
      rw [q1]
      simp only [Option.bind_some]
      rw [if_neg z1]
      rw [q2]
      simp only [Option.bind_some, if_true]
      rw [qy]
      rfl, Nat.mod_lt _ (by decide), shl_end y b, HR8.out, hab, HG8.out⟩
set_option maxHeartbeats 2000000 in
set_option maxRecDepth 100000 in
theorem num_z2n {w0 : World} {Q B at_ lo hi step a b : Nat} {v : Value} {l : List UInt8} {is : Bool} (h : Rg w0 Q B v at_ l lo hi false step (a : Int) (b : Int) is) (hab : a + b ≤ 63) {x1 a1 : Nat} (q1 : Gz.rdk (Bt.unpack l) at_ 1 = some (x1, a1)) (z1 : x1 ≠ 0) {a2 : Nat} (q2 : Gz.rdk (Bt.unpack l) a1 1 = some (0, a2)) (qy : Gz.rdk (Bt.unpack l) a2 (64 - a - b) = none) :
    Calls Tryz.prog 98 #[.pointer (some ⟨Q, 0, none⟩)] w0 fun e w' => NumPost w0 Q B at_ lo hi step a b v l is e w' := by
  have g1 : ((x1 : Int) == 0) = false := by simp; omega
  have gneg : decide (((b : Nat) : Int) < 0) = false := decide_eq_false (by omega)
  have HR0 := Lib.hid h
  have HG0 := Lib.hid (Ga.refl Q B none w0)
  clear h
  go_enter Tryz.func98, Tryz.ntmps98
  go_wp2_with fail
  refine (gbits_some HR0.out 1 (by decide) q1).mono ?_
  rintro e w1 ⟨rfl, hr1, hg1⟩
  have HR1 := Lib.hid hr1
  have HG1 := Lib.hid (HG0.out.trans hg1 (Anew.refl _ _))
  obtain ⟨c10, c11, c12, c13, c14, c15, c1z⟩ := HR1.out.cell
  clear hr1 hg1
  go_wp2_with fail
  refine (gbits_some HR1.out 1 (by decide) q2).mono ?_
  rintro e w2 ⟨rfl, hr2, hg2⟩
  have HR2 := Lib.hid hr2
  have HG2 := Lib.hid (HG1.out.trans hg2 (Anew.refl _ _))
  obtain ⟨c20, c21, c22, c23, c24, c25, c2z⟩ := HR2.out.cell
  clear hr2 hg2
  go_wp2_with fail
  go_region_held3 (fun w' => w'.cell? ⟨Q, 3, none⟩ = some (.int .i64 (a : Int)) ∧ w'.cell? ⟨Q, 4, none⟩ = some (.int .i64 (b : Int)) ∧ w'.cell? ⟨Q, 5, none⟩ = some (.bool is)) (first | assumption | exact ⟨by assumption, by assumption, by assumption⟩) (first
    | (go_at_call 92; refine (many_any _ (a : Int) (b : Int) is (by omega) (by omega)).mono ?_; rintro e w7 ⟨rfl, hb7⟩; have hr7 := (HR2.out.below (drew_b _)).below hb7; obtain ⟨-, -, -, d3, d4, d5, -⟩ := hr7.cell; have HR7 := Lib.hid hr7; have HG7 := Lib.hid ((HG2.out.trans (Ga.ofBelow (drew_b _)) (Anew.refl _ _)).trans (Ga.ofBelow hb7) (Anew.refl _ _)); clear hr7 hb7)
    | (go_at_call 95; refine (gbits_none' HR7.out (64 - a - b) (by omega) qy _ (by omega)).mono ?_; rintro e w8 ⟨y, rfl, hr8, hg8⟩; obtain ⟨-, -, -, e3, e4, e5, -⟩ := hr8.cell; have HR8 := Lib.hid hr8; have HG8 := Lib.hid (HG7.out.trans hg8 (Anew.refl _ _)); clear hr8 hg8))
  go_wp2
  go_ret
  exact .inr ⟨by
      unfold Gz.numD
      rw [q1]
      simp only [Option.bind_some]
      rw [if_neg z1]
      rw [q2]
      simp only [Option.bind_some, if_true]
      rw [qy]
      rfl, y * 2 ^ b % 18446744073709551616, a2, _, _, Nat.mod_lt _ (by decide), shl_end y b, HR8.out, HG8.out⟩
set_option maxHeartbeats 2000000 in
set_option maxRecDepth 100000 in
theorem num_n5 {w0 : World} {Q B at_ lo hi step a b : Nat} {v : Value} {l : List UInt8} {is : Bool} (h : Rg w0 Q B v at_ l lo hi false step (a : Int) (b : Int) is) (hab : a + b ≤ 63) {x1 a1 : Nat} (q1 : Gz.rdk (Bt.unpack l) at_ 1 = some (x1, a1)) (z1 : x1 ≠ 0) {a2 : Nat} (q2 : Gz.rdk (Bt.unpack l) a1 1 = some (1, a2)) (q5 : Gz.rdk (Bt.unpack l) a2 5 = none) :
    Calls Tryz.prog 98 #[.pointer (some ⟨Q, 0, none⟩)] w0 fun e w' => NumPost w0 Q B at_ lo hi step a b v l is e w' := by
  have g1 : ((x1 : Int) == 0) = false := by simp; omega
  have gneg : decide (((b : Nat) : Int) < 0) = false := decide_eq_false (by omega)
  have HR0 := Lib.hid h
  have HG0 := Lib.hid (Ga.refl Q B none w0)
  clear h
  go_enter Tryz.func98, Tryz.ntmps98
  go_wp2_with fail
  refine (gbits_some HR0.out 1 (by decide) q1).mono ?_
  rintro e w1 ⟨rfl, hr1, hg1⟩
  have HR1 := Lib.hid hr1
  have HG1 := Lib.hid (HG0.out.trans hg1 (Anew.refl _ _))
  obtain ⟨c10, c11, c12, c13, c14, c15, c1z⟩ := HR1.out.cell
  clear hr1 hg1
  go_wp2_with fail
  refine (gbits_some HR1.out 1 (by decide) q2).mono ?_
  rintro e w2 ⟨rfl, hr2, hg2⟩
  have HR2 := Lib.hid hr2
  have HG2 := Lib.hid (HG1.out.trans hg2 (Anew.refl _ _))
  obtain ⟨c20, c21, c22, c23, c24, c25, c2z⟩ := HR2.out.cell
  clear hr2 hg2
  go_wp2_with fail
  refine (gbits_none HR2.out 5 (by decide) q5).mono ?_
  rintro e w3 ⟨rfl, hr3, hg3⟩
  have HR3 := Lib.hid hr3
  have HG3 := Lib.hid (HG2.out.trans hg3 (Anew.refl _ _))
  obtain ⟨c30, c31, c32, c33, c34, c35, c3z⟩ := HR3.out.cell
  clear hr3 hg3
  go_wp2_with fail
  have hrs := HR3.out.set 3 (.int .i64 0) rfl
  obtain ⟨s0, s1, s2, s3, s4, s5, sz⟩ := hrs.cell
  have HRS := Lib.hid hrs
  have HGS := Lib.hid (HG3.out.trans (Ga.setQ 3 (.int .i64 0)) (Anew.refl _ _))
  clear hrs
  go_region_held3 (fun w' => w'.cell? ⟨Q, 3, none⟩ = some (.int .i64 0)) (first | assumption | exact hS4 _) (first | (go_at_call 95; refine (gbits_bad (HRS.out.below (drew_b _)) 6).mono ?_; rintro e w4 ⟨xb, ab, hxl, rfl, hr4, hg4⟩; obtain ⟨zb, hzb⟩ : ∃ zb : Int, IntKind.i64.wrap (xb : Int) = zb := ⟨_, rfl⟩; obtain ⟨R, hR⟩ : ∃ R : Int, IntKind.i64.wrap (63 - zb) = R := ⟨_, rfl⟩; have hS4 := fun X => row_set3 X hr4.top; have hB4 := fun X => row_set1 X hr4.top; have hX4 := fun X => row_set4 X hr4.top; obtain ⟨t0, t1, t2, t3, t4, t5, tz⟩ := hr4.cell; have HR4 := Lib.hid hr4; have HG4 := Lib.hid ((HGS.out.trans (Ga.ofBelow (drew_b _)) (Anew.refl _ _)).trans hg4 (Anew.refl _ _)); clear hr4 hg4))
  go_wp2
  all_goals
    go_ret
    exact .inr ⟨by
      unfold Gz.numD
      rw [q1]
      simp only [Option.bind_some]
      rw [if_neg z1]
      rw [q2]
      simp only [Option.bind_some]
      rw [if_neg (by decide)]
      rw [q5]
      rfl, 0, _, _, _, by decide, rfl, (HR4.out.set 4 (.int .i64 _) rfl).set 1 _ rfl, ((HG4.out.trans (Ga.setQ 4 _) (Anew.refl _ _))).trans (Ga.setQ 1 _) (Anew.refl _ _)⟩
set_option maxHeartbeats 2000000 in
set_option maxRecDepth 100000 in
theorem num_n6 {w0 : World} {Q B at_ lo hi step a b : Nat} {v : Value} {l : List UInt8} {is : Bool} (h : Rg w0 Q B v at_ l lo hi false step (a : Int) (b : Int) is) (hab : a + b ≤ 63) {x1 a1 : Nat} (q1 : Gz.rdk (Bt.unpack l) at_ 1 = some (x1, a1)) (z1 : x1 ≠ 0) {a2 : Nat} (q2 : Gz.rdk (Bt.unpack l) a1 1 = some (1, a2)) {x5 a5 : Nat} (q5 : Gz.rdk (Bt.unpack l) a2 5 = some (x5, a5)) (q6 : Gz.rdk (Bt.unpack l) a5 6 = none) :
    Calls Tryz.prog 98 #[.pointer (some ⟨Q, 0, none⟩)] w0 fun e w' => NumPost w0 Q B at_ lo hi step a b v l is e w' := by
  have g1 : ((x1 : Int) == 0) = false := by simp; omega
  have gneg : decide (((b : Nat) : Int) < 0) = false := decide_eq_false (by omega)
  have HR0 := Lib.hid h
  have HG0 := Lib.hid (Ga.refl Q B none w0)
  clear h
  go_enter Tryz.func98, Tryz.ntmps98
  go_wp2_with fail
  refine (gbits_some HR0.out 1 (by decide) q1).mono ?_
  rintro e w1 ⟨rfl, hr1, hg1⟩
  have HR1 := Lib.hid hr1
  have HG1 := Lib.hid (HG0.out.trans hg1 (Anew.refl _ _))
  obtain ⟨c10, c11, c12, c13, c14, c15, c1z⟩ := HR1.out.cell
  clear hr1 hg1
  go_wp2_with fail
  refine (gbits_some HR1.out 1 (by decide) q2).mono ?_
  rintro e w2 ⟨rfl, hr2, hg2⟩
  have HR2 := Lib.hid hr2
  have HG2 := Lib.hid (HG1.out.trans hg2 (Anew.refl _ _))
  obtain ⟨c20, c21, c22, c23, c24, c25, c2z⟩ := HR2.out.cell
  clear hr2 hg2
  go_wp2_with fail
  have h5l : x5 < 32 := rdk_32 q5
  refine (gbits_some HR2.out 5 (by decide) q5).mono ?_
  rintro e w3 ⟨rfl, hr3, hg3⟩
  have HR3 := Lib.hid hr3
  have HG3 := Lib.hid (HG2.out.trans hg3 (Anew.refl _ _))
  obtain ⟨c30, c31, c32, c33, c34, c35, c3z⟩ := HR3.out.cell
  clear hr3 hg3
  go_wp2_with fail
  have hrs := HR3.out.set 3 (.int .i64 (x5 : Int)) rfl
  obtain ⟨s0, s1, s2, s3, s4, s5, sz⟩ := hrs.cell
  have HRS := Lib.hid hrs
  have HGS := Lib.hid (HG3.out.trans (Ga.setQ 3 (.int .i64 (x5 : Int))) (Anew.refl _ _))
  clear hrs
  go_region_held3 (fun w' => w'.cell? ⟨Q, 3, none⟩ = some (.int .i64 (x5 : Int))) (first | assumption | exact hS4 _) (first | (go_at_call 95; refine (gbits_none (HRS.out.below (drew_b _)) 6 (by decide) q6).mono ?_; rintro e w4 ⟨rfl, hr4, hg4⟩; have hS4 := fun X => row_set3 X hr4.top; have hB4 := fun X => row_set1 X hr4.top; have hX4 := fun X => row_set4 X hr4.top; obtain ⟨t0, t1, t2, t3, t4, t5, tz⟩ := hr4.cell; have HR4 := Lib.hid hr4; have HG4 := Lib.hid ((HGS.out.trans (Ga.ofBelow (drew_b _)) (Anew.refl _ _)).trans hg4 (Anew.refl _ _)); clear hr4 hg4))
  go_wp2
  all_goals
    go_ret
    exact .inr ⟨by
      unfold Gz.numD
      rw [q1]
      simp only [Option.bind_some]
      rw [if_neg z1]
      rw [q2]
      simp only [Option.bind_some]
      rw [if_neg (by decide)]
      rw [q5]
      simp only [Option.bind_some]
      rw [q6]
      rfl, 0, _, _, _, by decide, rfl, (HR4.out.set 4 (.int .i64 _) rfl).set 1 _ rfl, ((HG4.out.trans (Ga.setQ 4 _) (Anew.refl _ _))).trans (Ga.setQ 1 _) (Anew.refl _ _)⟩
set_option maxHeartbeats 2000000 in
set_option maxRecDepth 100000 in
theorem num_neg {w0 : World} {Q B at_ lo hi step a b : Nat} {v : Value} {l : List UInt8} {is : Bool} (h : Rg w0 Q B v at_ l lo hi false step (a : Int) (b : Int) is) (hab : a + b ≤ 63) {x1 a1 : Nat} (q1 : Gz.rdk (Bt.unpack l) at_ 1 = some (x1, a1)) (z1 : x1 ≠ 0) {a2 : Nat} (q2 : Gz.rdk (Bt.unpack l) a1 1 = some (1, a2)) {x5 a5 : Nat} (q5 : Gz.rdk (Bt.unpack l) a2 5 = some (x5, a5)) {x6 a6 : Nat} (q6 : Gz.rdk (Bt.unpack l) a5 6 = some (x6, a6)) (hg : 63 < x5 + x6) :
    Calls Tryz.prog 98 #[.pointer (some ⟨Q, 0, none⟩)] w0 fun e w' => NumPost w0 Q B at_ lo hi step a b v l is e w' := by
  have g1 : ((x1 : Int) == 0) = false := by simp; omega
  have gneg : decide (((b : Nat) : Int) < 0) = false := decide_eq_false (by omega)
  have HR0 := Lib.hid h
  have HG0 := Lib.hid (Ga.refl Q B none w0)
  clear h
  go_enter Tryz.func98, Tryz.ntmps98
  go_wp2_with fail
  have h5l : x5 < 32 := rdk_32 q5
  have h6l : x6 < 64 := rdk_64 q6
  refine (gbits_some HR0.out 1 (by decide) q1).mono ?_
  rintro e w1 ⟨rfl, hr1, hg1⟩
  have HR1 := Lib.hid hr1
  have HG1 := Lib.hid (HG0.out.trans hg1 (Anew.refl _ _))
  obtain ⟨c10, c11, c12, c13, c14, c15, c1z⟩ := HR1.out.cell
  clear hr1 hg1
  go_wp2_with fail
  refine (gbits_some HR1.out 1 (by decide) q2).mono ?_
  rintro e w2 ⟨rfl, hr2, hg2⟩
  have HR2 := Lib.hid hr2
  have HG2 := Lib.hid (HG1.out.trans hg2 (Anew.refl _ _))
  obtain ⟨c20, c21, c22, c23, c24, c25, c2z⟩ := HR2.out.cell
  clear hr2 hg2
  go_wp2_with fail
  refine (gbits_some HR2.out 5 (by decide) q5).mono ?_
  rintro e w3 ⟨rfl, hr3, hg3⟩
  have HR3 := Lib.hid hr3
  have HG3 := Lib.hid (HG2.out.trans hg3 (Anew.refl _ _))
  obtain ⟨c30, c31, c32, c33, c34, c35, c3z⟩ := HR3.out.cell
  clear hr3 hg3
  go_wp2_with fail
  have hrs := HR3.out.set 3 (.int .i64 (x5 : Int)) rfl
  obtain ⟨s0, s1, s2, s3, s4, s5, sz⟩ := hrs.cell
  have HRS := Lib.hid hrs
  have HGS := Lib.hid (HG3.out.trans (Ga.setQ 3 (.int .i64 (x5 : Int))) (Anew.refl _ _))
  clear hrs
  go_region_held3 (fun w' => w'.cell? ⟨Q, 3, none⟩ = some (.int .i64 (x5 : Int))) (first | assumption | exact hS4 _) (first | (go_at_call 95; refine (gbits_some (HRS.out.below (drew_b _)) 6 (by decide) q6).mono ?_; rintro e w4 ⟨rfl, hr4, hg4⟩; have hS4 := fun X => row_set3 X hr4.top; have hB4 := fun X => row_set1 X hr4.top; have hX4 := fun X => row_set4 X hr4.top; obtain ⟨t0, t1, t2, t3, t4, t5, tz⟩ := hr4.cell; have HR4 := Lib.hid hr4; have HG4 := Lib.hid ((HGS.out.trans (Ga.ofBelow (drew_b _)) (Anew.refl _ _)).trans hg4 (Anew.refl _ _)); clear hr4 hg4))
  have gq : decide ((63 : Int) - (x5 : Int) - (x6 : Int) < 0) = true := decide_eq_true (by omega)
  go_wp2
  all_goals
    go_ret
    exact .inr ⟨by
      unfold Gz.numD
      rw [q1]
      simp only [Option.bind_some]
      rw [if_neg z1]
      rw [q2]
      simp only [Option.bind_some]
      rw [if_neg (by decide)]
      rw [q5]
      simp only [Option.bind_some]
      rw [q6]
      simp only [Option.bind_some]
      rw [if_pos hg], 0, _, _, _, by decide, rfl, (HR4.out.set 4 (.int .i64 _) rfl).set 1 _ rfl, ((HG4.out.trans (Ga.setQ 4 _) (Anew.refl _ _))).trans (Ga.setQ 1 _) (Anew.refl _ _)⟩
set_option maxHeartbeats 2000000 in
set_option maxRecDepth 100000 in
theorem num_ws {w0 : World} {Q B at_ lo hi step a b : Nat} {v : Value} {l : List UInt8} {is : Bool} (h : Rg w0 Q B v at_ l lo hi false step (a : Int) (b : Int) is) (hab : a + b ≤ 63) {x1 a1 : Nat} (q1 : Gz.rdk (Bt.unpack l) at_ 1 = some (x1, a1)) (z1 : x1 ≠ 0) {a2 : Nat} (q2 : Gz.rdk (Bt.unpack l) a1 1 = some (1, a2)) {x5 a5 : Nat} (q5 : Gz.rdk (Bt.unpack l) a2 5 = some (x5, a5)) {x6 a6 : Nat} (q6 : Gz.rdk (Bt.unpack l) a5 6 = some (x6, a6)) (hg : ¬ 63 < x5 + x6) {y c : Nat} (qy : Gz.rdk (Bt.unpack l) a6 (64 - x5 - (63 - x5 - x6)) = some (y, c)) :
    Calls Tryz.prog 98 #[.pointer (some ⟨Q, 0, none⟩)] w0 fun e w' => NumPost w0 Q B at_ lo hi step a b v l is e w' := by
  have g1 : ((x1 : Int) == 0) = false := by simp; omega
  have gneg : decide (((b : Nat) : Int) < 0) = false := decide_eq_false (by omega)
  have HR0 := Lib.hid h
  have HG0 := Lib.hid (Ga.refl Q B none w0)
  clear h
  go_enter Tryz.func98, Tryz.ntmps98
  go_wp2_with fail
  have h5l : x5 < 32 := rdk_32 q5
  have h6l : x6 < 64 := rdk_64 q6
  obtain ⟨R, hR⟩ : ∃ R : Nat, 63 - x5 - x6 = R := ⟨_, rfl⟩
  have hR2 : (63 : Int) - (x5 : Int) - (x6 : Int) = (R : Int) := by omega
  have gq : decide (((R : Nat) : Int) < 0) = false := decide_eq_false (by omega)
  rw [hR] at qy
  have e63 : IntKind.i64.wrap (63 - (x5 : Int)) = 63 - (x5 : Int) := by rw [IntKind.wrap_i64]; omega
  have e6 : IntKind.i64.wrap (x6 : Int) = (x6 : Int) := by rw [IntKind.wrap_i64]; omega
  have eR : IntKind.i64.wrap (63 - (x5 : Int) - (x6 : Int)) = (R : Int) := by rw [IntKind.wrap_i64]; omega
  refine (gbits_some HR0.out 1 (by decide) q1).mono ?_
  rintro e w1 ⟨rfl, hr1, hg1⟩
  have HR1 := Lib.hid hr1
  have HG1 := Lib.hid (HG0.out.trans hg1 (Anew.refl _ _))
  obtain ⟨c10, c11, c12, c13, c14, c15, c1z⟩ := HR1.out.cell
  clear hr1 hg1
  go_wp2_with fail
  refine (gbits_some HR1.out 1 (by decide) q2).mono ?_
  rintro e w2 ⟨rfl, hr2, hg2⟩
  have HR2 := Lib.hid hr2
  have HG2 := Lib.hid (HG1.out.trans hg2 (Anew.refl _ _))
  obtain ⟨c20, c21, c22, c23, c24, c25, c2z⟩ := HR2.out.cell
  clear hr2 hg2
  go_wp2_with fail
  refine (gbits_some HR2.out 5 (by decide) q5).mono ?_
  rintro e w3 ⟨rfl, hr3, hg3⟩
  have HR3 := Lib.hid hr3
  have HG3 := Lib.hid (HG2.out.trans hg3 (Anew.refl _ _))
  obtain ⟨c30, c31, c32, c33, c34, c35, c3z⟩ := HR3.out.cell
  clear hr3 hg3
  go_wp2_with fail
  have hrs := HR3.out.set 3 (.int .i64 (x5 : Int)) rfl
  obtain ⟨s0, s1, s2, s3, s4, s5, sz⟩ := hrs.cell
  have HRS := Lib.hid hrs
  have HGS := Lib.hid (HG3.out.trans (Ga.setQ 3 (.int .i64 (x5 : Int))) (Anew.refl _ _))
  clear hrs
  go_region_held3 (fun w' => w'.cell? ⟨Q, 3, none⟩ = some (.int .i64 (x5 : Int))) (first | assumption | exact hS4 _) (first | (go_at_call 95; refine (gbits_some (HRS.out.below (drew_b _)) 6 (by decide) q6).mono ?_; rintro e w4 ⟨rfl, hr4, hg4⟩; have hS4 := fun X => row_set3 X hr4.top; have hB4 := fun X => row_set1 X hr4.top; have hX4 := fun X => row_set4 X hr4.top; obtain ⟨t0, t1, t2, t3, t4, t5, tz⟩ := hr4.cell; have HR4 := Lib.hid hr4; have HG4 := Lib.hid ((HGS.out.trans (Ga.ofBelow (drew_b _)) (Anew.refl _ _)).trans hg4 (Anew.refl _ _)); clear hr4 hg4))
  go_wp2_with fail
  have hr5 := HR4.out.set 4 (.int .i64 (R : Int)) rfl
  have HG5 := Lib.hid (HG4.out.trans (Ga.setQ 4 (.int .i64 (R : Int))) (Anew.refl _ _))
  generalize w4.setCell ⟨Q, 4, none⟩ (.int .i64 (R : Int)) = w5 at *
  obtain ⟨u0, u1, u2, u3, u4, u5, uz⟩ := hr5.cell
  have HR5 := Lib.hid hr5
  clear hr5
  go_region_held3 (fun w' => w'.cell? ⟨Q, 3, none⟩ = some (.int .i64 (x5 : Int)) ∧ w'.cell? ⟨Q, 4, none⟩ = some (.int .i64 (R : Int)) ∧ w'.cell? ⟨Q, 5, none⟩ = some (.bool is)) (first | assumption | exact ⟨by assumption, by assumption, by assumption⟩) (first
    | (go_at_call 92; refine (many_any _ (x5 : Int) (R : Int) is (by omega) (by omega)).mono ?_; rintro e w7 ⟨rfl, hb7⟩; have hr7 := (HR5.out.below (drew_b _)).below hb7; obtain ⟨-, -, -, d3, d4, d5, -⟩ := hr7.cell; have HR7 := Lib.hid hr7; have HG7 := Lib.hid ((HG5.out.trans (Ga.ofBelow (drew_b _)) (Anew.refl _ _)).trans (Ga.ofBelow hb7) (Anew.refl _ _)); clear hr7 hb7)
    | (go_at_call 95; refine (gbits_some' HR7.out (64 - x5 - R) (by omega) qy _ (by omega)).mono ?_; rintro e w8 ⟨rfl, hr8, hg8⟩; obtain ⟨-, -, -, e3, e4, e5, -⟩ := hr8.cell; have HR8 := Lib.hid hr8; have HG8 := Lib.hid (HG7.out.trans hg8 (Anew.refl _ _)); clear hr8 hg8))
  go_wp2
  go_ret
  exact .inl ⟨y * 2 ^ R % 18446744073709551616, x5, R, c, by
      unfold Gz.numD
      rw [q1]
      simp only [Option.bind_some]
      rw [if_neg z1]
      rw [q2]
      simp only [Option.bind_some]
      rw [if_neg (by decide)]
      rw [q5]
      simp only [Option.bind_some]
      rw [q6]
      simp only [Option.bind_some]
      rw [if_neg hg, hR, qy]
      rfl, Nat.mod_lt _ (by decide), shl_end y R, HR8.out, by omega, HG8.out⟩
set_option maxHeartbeats 2000000 in
set_option maxRecDepth 100000 in
theorem num_wn {w0 : World} {Q B at_ lo hi step a b : Nat} {v : Value} {l : List UInt8} {is : Bool} (h : Rg w0 Q B v at_ l lo hi false step (a : Int) (b : Int) is) (hab : a + b ≤ 63) {x1 a1 : Nat} (q1 : Gz.rdk (Bt.unpack l) at_ 1 = some (x1, a1)) (z1 : x1 ≠ 0) {a2 : Nat} (q2 : Gz.rdk (Bt.unpack l) a1 1 = some (1, a2)) {x5 a5 : Nat} (q5 : Gz.rdk (Bt.unpack l) a2 5 = some (x5, a5)) {x6 a6 : Nat} (q6 : Gz.rdk (Bt.unpack l) a5 6 = some (x6, a6)) (hg : ¬ 63 < x5 + x6) (qy : Gz.rdk (Bt.unpack l) a6 (64 - x5 - (63 - x5 - x6)) = none) :
    Calls Tryz.prog 98 #[.pointer (some ⟨Q, 0, none⟩)] w0 fun e w' => NumPost w0 Q B at_ lo hi step a b v l is e w' := by
  have g1 : ((x1 : Int) == 0) = false := by simp; omega
  have gneg : decide (((b : Nat) : Int) < 0) = false := decide_eq_false (by omega)
  have HR0 := Lib.hid h
  have HG0 := Lib.hid (Ga.refl Q B none w0)
  clear h
  go_enter Tryz.func98, Tryz.ntmps98
  go_wp2_with fail
  have h5l : x5 < 32 := rdk_32 q5
  have h6l : x6 < 64 := rdk_64 q6
  obtain ⟨R, hR⟩ : ∃ R : Nat, 63 - x5 - x6 = R := ⟨_, rfl⟩
  have hR2 : (63 : Int) - (x5 : Int) - (x6 : Int) = (R : Int) := by omega
  have gq : decide (((R : Nat) : Int) < 0) = false := decide_eq_false (by omega)
  rw [hR] at qy
  have e63 : IntKind.i64.wrap (63 - (x5 : Int)) = 63 - (x5 : Int) := by rw [IntKind.wrap_i64]; omega
  have e6 : IntKind.i64.wrap (x6 : Int) = (x6 : Int) := by rw [IntKind.wrap_i64]; omega
  have eR : IntKind.i64.wrap (63 - (x5 : Int) - (x6 : Int)) = (R : Int) := by rw [IntKind.wrap_i64]; omega
  refine (gbits_some HR0.out 1 (by decide) q1).mono ?_
  rintro e w1 ⟨rfl, hr1, hg1⟩
  have HR1 := Lib.hid hr1
  have HG1 := Lib.hid (HG0.out.trans hg1 (Anew.refl _ _))
  obtain ⟨c10, c11, c12, c13, c14, c15, c1z⟩ := HR1.out.cell
  clear hr1 hg1
  go_wp2_with fail
  refine (gbits_some HR1.out 1 (by decide) q2).mono ?_
  rintro e w2 ⟨rfl, hr2, hg2⟩
  have HR2 := Lib.hid hr2
  have HG2 := Lib.hid (HG1.out.trans hg2 (Anew.refl _ _))
  obtain ⟨c20, c21, c22, c23, c24, c25, c2z⟩ := HR2.out.cell
  clear hr2 hg2
  go_wp2_with fail
  refine (gbits_some HR2.out 5 (by decide) q5).mono ?_
  rintro e w3 ⟨rfl, hr3, hg3⟩
  have HR3 := Lib.hid hr3
  have HG3 := Lib.hid (HG2.out.trans hg3 (Anew.refl _ _))
  obtain ⟨c30, c31, c32, c33, c34, c35, c3z⟩ := HR3.out.cell
  clear hr3 hg3
  go_wp2_with fail
  have hrs := HR3.out.set 3 (.int .i64 (x5 : Int)) rfl
  obtain ⟨s0, s1, s2, s3, s4, s5, sz⟩ := hrs.cell
  have HRS := Lib.hid hrs
  have HGS := Lib.hid (HG3.out.trans (Ga.setQ 3 (.int .i64 (x5 : Int))) (Anew.refl _ _))
  clear hrs
  go_region_held3 (fun w' => w'.cell? ⟨Q, 3, none⟩ = some (.int .i64 (x5 : Int))) (first | assumption | exact hS4 _) (first | (go_at_call 95; refine (gbits_some (HRS.out.below (drew_b _)) 6 (by decide) q6).mono ?_; rintro e w4 ⟨rfl, hr4, hg4⟩; have hS4 := fun X => row_set3 X hr4.top; have hB4 := fun X => row_set1 X hr4.top; have hX4 := fun X => row_set4 X hr4.top; obtain ⟨t0, t1, t2, t3, t4, t5, tz⟩ := hr4.cell; have HR4 := Lib.hid hr4; have HG4 := Lib.hid ((HGS.out.trans (Ga.ofBelow (drew_b _)) (Anew.refl _ _)).trans hg4 (Anew.refl _ _)); clear hr4 hg4))
  go_wp2_with fail
  have hr5 := HR4.out.set 4 (.int .i64 (R : Int)) rfl
  have HG5 := Lib.hid (HG4.out.trans (Ga.setQ 4 (.int .i64 (R : Int))) (Anew.refl _ _))
  generalize w4.setCell ⟨Q, 4, none⟩ (.int .i64 (R : Int)) = w5 at *
  obtain ⟨u0, u1, u2, u3, u4, u5, uz⟩ := hr5.cell
  have HR5 := Lib.hid hr5
  clear hr5
  go_region_held3 (fun w' => w'.cell? ⟨Q, 3, none⟩ = some (.int .i64 (x5 : Int)) ∧ w'.cell? ⟨Q, 4, none⟩ = some (.int .i64 (R : Int)) ∧ w'.cell? ⟨Q, 5, none⟩ = some (.bool is)) (first | assumption | exact ⟨by assumption, by assumption, by assumption⟩) (first
    | (go_at_call 92; refine (many_any _ (x5 : Int) (R : Int) is (by omega) (by omega)).mono ?_; rintro e w7 ⟨rfl, hb7⟩; have hr7 := (HR5.out.below (drew_b _)).below hb7; obtain ⟨-, -, -, d3, d4, d5, -⟩ := hr7.cell; have HR7 := Lib.hid hr7; have HG7 := Lib.hid ((HG5.out.trans (Ga.ofBelow (drew_b _)) (Anew.refl _ _)).trans (Ga.ofBelow hb7) (Anew.refl _ _)); clear hr7 hb7)
    | (go_at_call 95; refine (gbits_none' HR7.out (64 - x5 - R) (by omega) qy _ (by omega)).mono ?_; rintro e w8 ⟨y, rfl, hr8, hg8⟩; obtain ⟨-, -, -, e3, e4, e5, -⟩ := hr8.cell; have HR8 := Lib.hid hr8; have HG8 := Lib.hid (HG7.out.trans hg8 (Anew.refl _ _)); clear hr8 hg8))
  go_wp2
  go_ret
  exact .inr ⟨by
      unfold Gz.numD
      rw [q1]
      simp only [Option.bind_some]
      rw [if_neg z1]
      rw [q2]
      simp only [Option.bind_some]
      rw [if_neg (by decide)]
      rw [q5]
      simp only [Option.bind_some]
      rw [q6]
      simp only [Option.bind_some]
      rw [if_neg hg, hR, qy]
      rfl, y * 2 ^ R % 18446744073709551616, a6, _, _, Nat.mod_lt _ (by decide), shl_end y R, HR8.out, HG8.out⟩
set_option maxHeartbeats 2000000 in
set_option maxRecDepth 100000 in
/-- Of a bad one. -/
theorem gnumber_bad {w0 : World} {Q B at_ lo hi step : Nat} {v : Value} {l : List UInt8} {is : Bool} {wl wr : Int} (h : Rg w0 Q B v at_ l lo hi true step wl wr is) :
    Calls Tryz.prog 98 #[.pointer (some ⟨Q, 0, none⟩)] w0 fun e w' => NumBad w0 Q B lo hi step v l is e w' := by
  have HR0 := Lib.hid h
  have HG0 := Lib.hid (Ga.refl Q B none w0)
  clear h
  go_enter Tryz.func98, Tryz.ntmps98
  go_wp2_with fail
  refine (gbits_bad HR0.out 1).mono ?_
  rintro e w1 ⟨x1, a1, hl1, rfl, hr1, hg1⟩
  have HR1 := Lib.hid hr1
  have HG1 := Lib.hid (HG0.out.trans hg1 (Anew.refl _ _))
  obtain ⟨c10, c11, c12, c13, c14, c15, c1z⟩ := HR1.out.cell
  clear hr1 hg1
  by_cases z1 : x1 = 0
  · subst z1
    go_wp2_with fail
    go_ret
    exact ⟨0, a1, _, _, by decide, rfl, HR1.out, HG1.out⟩
  · have g1 : ((x1 : Int) == 0) = false := by simp; omega
    go_wp2_with fail
    refine (gbits_bad HR1.out 1).mono ?_
    rintro e w2 ⟨x2, a2, hl2, rfl, hr2, hg2⟩
    have HR2 := Lib.hid hr2
    have HG2 := Lib.hid (HG1.out.trans hg2 (Anew.refl _ _))
    obtain ⟨c20, c21, c22, c23, c24, c25, c2z⟩ := HR2.out.cell
    clear hr2 hg2
    by_cases z2 : x2 = 1
    · subst z2
      go_wp2_with fail
      refine (gbits_bad HR2.out 5).mono ?_
      rintro e w3 ⟨x3, a3, hl3, rfl, hr3, hg3⟩
      have HR3 := Lib.hid hr3
      have HG3 := Lib.hid (HG2.out.trans hg3 (Anew.refl _ _))
      obtain ⟨c30, c31, c32, c33, c34, c35, c3z⟩ := HR3.out.cell
      clear hr3 hg3
      obtain ⟨zl, hzl⟩ : ∃ zl : Int, IntKind.i64.wrap (x3 : Int) = zl := ⟨_, rfl⟩
      obtain ⟨zs, hzs⟩ : ∃ zs : Int, IntKind.i64.wrap (63 - zl) = zs := ⟨_, rfl⟩
      go_wp2_with fail
      have hrs := HR3.out.set 3 (.int .i64 zl) rfl
      obtain ⟨s0, s1, s2, s3, s4, s5, sz⟩ := hrs.cell
      have HRS := Lib.hid hrs
      have HGS := Lib.hid (HG3.out.trans (Ga.setQ 3 (.int .i64 zl)) (Anew.refl _ _))
      clear hrs
      go_region_held3 (fun w' => w'.cell? ⟨Q, 3, none⟩ = some (.int .i64 zl)) (first | assumption | exact hS4 _) (first | (go_at_call 95; refine (gbits_bad (HRS.out.below (drew_b _)) 6).mono ?_; rintro e w4 ⟨xb, ab, hxl, rfl, hr4, hg4⟩; obtain ⟨zb, hzb⟩ : ∃ zb : Int, IntKind.i64.wrap (xb : Int) = zb := ⟨_, rfl⟩; obtain ⟨R, hR⟩ : ∃ R : Int, IntKind.i64.wrap (zs - zb) = R := ⟨_, rfl⟩; have hS4 := fun X => row_set3 X hr4.top; have hB4 := fun X => row_set1 X hr4.top; have hX4 := fun X => row_set4 X hr4.top; obtain ⟨t0, t1, t2, t3, t4, t5, tz⟩ := hr4.cell; have HR4 := Lib.hid hr4; have HG4 := Lib.hid ((HGS.out.trans (Ga.ofBelow (drew_b _)) (Anew.refl _ _)).trans hg4 (Anew.refl _ _)); clear hr4 hg4))
      go_wp2
      all_goals
        go_ret
        exact ⟨0, _, _, _, by decide, rfl, (HR4.out.set 4 (.int .i64 _) rfl).set 1 _ rfl, (HG4.out.trans (Ga.setQ 4 _) (Anew.refl _ _)).trans (Ga.setQ 1 _) (Anew.refl _ _)⟩
    · have g2 : ((x2 : Int) == 1) = false := by simp; omega
      go_wp2_with fail
      all_goals
        go_ret
        exact ⟨0, _, _, _, by decide, rfl, HR2.out.set 1 _ rfl, HG2.out.trans (Ga.setQ 1 _) (Anew.refl _ _)⟩
/-- Of one that is not bad. -/
theorem gnumber_any {w0 : World} {Q B at_ lo hi step a b : Nat} {v : Value} {l : List UInt8} {is : Bool} (h : Rg w0 Q B v at_ l lo hi false step (a : Int) (b : Int) is) (hab : a + b ≤ 63) :
    Calls Tryz.prog 98 #[.pointer (some ⟨Q, 0, none⟩)] w0 fun e w' => NumPost w0 Q B at_ lo hi step a b v l is e w' := by
  rcases q1 : Gz.rdk (Bt.unpack l) at_ 1 with _ | ⟨x1, a1⟩
  · exact num_n1 h hab q1
  by_cases z1 : x1 = 0
  · subst z1
    exact num_z1 h hab q1
  rcases q2 : Gz.rdk (Bt.unpack l) a1 1 with _ | ⟨x2, a2⟩
  · exact num_n2 h hab q1 z1 q2
  have h2 := rdk_one q2
  by_cases z2 : x2 = 0
  · subst z2
    rcases qy : Gz.rdk (Bt.unpack l) a2 (64 - a - b) with _ | ⟨y, c⟩
    · exact num_z2n h hab q1 z1 q2 qy
    · exact num_z2s h hab q1 z1 q2 qy
  obtain rfl : x2 = 1 := by omega
  rcases q5 : Gz.rdk (Bt.unpack l) a2 5 with _ | ⟨x5, a5⟩
  · exact num_n5 h hab q1 z1 q2 q5
  rcases q6 : Gz.rdk (Bt.unpack l) a5 6 with _ | ⟨x6, a6⟩
  · exact num_n6 h hab q1 z1 q2 q5 q6
  by_cases hg : 63 < x5 + x6
  · exact num_neg h hab q1 z1 q2 q5 q6 hg
  rcases qy : Gz.rdk (Bt.unpack l) a6 (64 - x5 - (63 - x5 - x6)) with _ | ⟨y, c⟩
  · exact num_wn h hab q1 z1 q2 q5 q6 hg qy
  · exact num_ws h hab q1 z1 q2 q5 q6 hg qy
end Go.Proofs.YtepjpdhmjchakaaGreatDoor
