import Derived.Test.YtepjpdhmjchakaaGreatDoorP15
import Derived.Test.YtepjpdhmjchakaaGreatDoorP8
import Derived.WalkMore
/- The reader's change of steps. -/
namespace Go.Proofs.YtepjpdhmjchakaaGreatDoor
open Go.RowKit
set_option linter.unusedVariables false

theorem cell_al {w : World} {a : Addr} {v : Value} {o : Obj} (h : w.cell? a = some v) : (w.alloc o).cell? a = some v :=
  (World.cell?_of_block (Below.heap_alloc _ _ _ (block_lt_of_cell h))).trans h
theorem al_b (w : World) (o : Obj) : Below w.heap.size w (w.alloc o) := (Below.refl _ _).alloc (Nat.le_refl _) o
/-- What change says. -/
def ChgPost (w : World) (Q B at_ lo hi step : Nat) (v : Value) (l : List UInt8) (wl wr : Int) (is : Bool) (e : Ending) (w' : World) : Prop :=
  (∃ d a, Gz.chgD (Bt.unpack l) at_ = some (d, a) ∧ d < 18446744073709551616 ∧ e = .returned (.int .u64 (d : Int)) ∧ Rg w' Q B v a l lo hi false step wl wr is ∧ Ga Q B none w w') ∨
  (Gz.chgD (Bt.unpack l) at_ = none ∧ ∃ x a, x < 18446744073709551616 ∧ e = .returned (.int .u64 ((x : Nat) : Int)) ∧ Rg w' Q B v a l lo hi true step wl wr is ∧ Ga Q B none w w')

set_option maxHeartbeats 2000000 in
set_option maxRecDepth 100000 in
theorem chg_n1 {w0 : World} {Q B at_ lo hi step : Nat} {v : Value} {l : List UInt8} {is : Bool} {wl wr : Int} (h : Rg w0 Q B v at_ l lo hi false step wl wr is) (q1 : Gz.rdk (Bt.unpack l) at_ 1 = none) :
    Calls Tryz.prog 97 #[.pointer (some ⟨Q, 0, none⟩)] w0 fun e w' => ChgPost w0 Q B at_ lo hi step v l wl wr is e w' := by
  have H0 := Lib.hid h
  have HR0 := Lib.hid h
  have HG0 := Lib.hid (Ga.refl Q B none w0)
  clear h H0
  have hx0 := fun W => (bk_at W).1
  have hx1 := fun W => (bk_at W).2.1
  have hx2 := fun W => (bk_at W).2.2
  unfold bkA at hx0 hx1 hx2
  go_enter Tryz.func97, Tryz.ntmps97
  go_wp2_with fail
  go_step3
  go_wp2_with fail
  refine (gbits_none HR0.out 1 (by decide) q1).mono ?_
  rintro e w1 ⟨rfl, hr1, hg1⟩
  have HR1 := Lib.hid hr1
  have HG1 := Lib.hid (HG0.out.trans hg1 (Anew.refl _ _))
  go_wp2_with fail
  rw [Exit.noGoto_ret]
  go_ret
  exact .inr ⟨by unfold Gz.chgD; rw [q1]; rfl, 0, at_, by decide, rfl, HR1.out, HG1.out⟩
set_option maxHeartbeats 2000000 in
set_option maxRecDepth 100000 in
theorem chg_z1 {w0 : World} {Q B at_ lo hi step : Nat} {v : Value} {l : List UInt8} {is : Bool} {wl wr : Int} (h : Rg w0 Q B v at_ l lo hi false step wl wr is) {a1 : Nat} (q1 : Gz.rdk (Bt.unpack l) at_ 1 = some (0, a1)) :
    Calls Tryz.prog 97 #[.pointer (some ⟨Q, 0, none⟩)] w0 fun e w' => ChgPost w0 Q B at_ lo hi step v l wl wr is e w' := by
  have H0 := Lib.hid h
  have HR0 := Lib.hid h
  have HG0 := Lib.hid (Ga.refl Q B none w0)
  clear h H0
  have hx0 := fun W => (bk_at W).1
  have hx1 := fun W => (bk_at W).2.1
  have hx2 := fun W => (bk_at W).2.2
  unfold bkA at hx0 hx1 hx2
  go_enter Tryz.func97, Tryz.ntmps97
  go_wp2_with fail
  go_step3
  go_wp2_with fail
  refine (gbits_some HR0.out 1 (by decide) q1).mono ?_
  rintro e w1 ⟨rfl, hr1, hg1⟩
  have HR1 := Lib.hid hr1
  have HG1 := Lib.hid (HG0.out.trans hg1 (Anew.refl _ _))
  go_wp2_with fail
  rw [Exit.noGoto_ret]
  go_ret
  exact .inl ⟨0, a1, by unfold Gz.chgD; rw [q1]; rfl, by decide, rfl, HR1.out, HG1.out⟩
set_option maxHeartbeats 2000000 in
set_option maxRecDepth 100000 in
theorem chg_b0s {w0 : World} {Q B at_ lo hi step : Nat} {v : Value} {l : List UInt8} {is : Bool} {wl wr : Int} (h : Rg w0 Q B v at_ l lo hi false step wl wr is) {a1 x1 : Nat} (q1 : Gz.rdk (Bt.unpack l) at_ 1 = some (x1, a1)) (z1 : x1 ≠ 0) {a2 : Nat} (q2 : Gz.rdk (Bt.unpack l) a1 1 = some (0, a2)) {y c : Nat} (qy : Gz.rdk (Bt.unpack l) a2 7 = some (y, c)) :
    Calls Tryz.prog 97 #[.pointer (some ⟨Q, 0, none⟩)] w0 fun e w' => ChgPost w0 Q B at_ lo hi step v l wl wr is e w' := by
  have hyl := rdk_lt (by decide) qy
  have hw : IntKind.u64.wrap ((y : Int) + 18446744073709551553) = (((y + 18446744073709551553) % 18446744073709551616 : Nat) : Int) := by rw [IntKind.wrap_u64]; omega
  have g1 : ((x1 : Int) == 0) = false := by simp; omega
  have H0 := Lib.hid h
  have HR0 := Lib.hid h
  have HG0 := Lib.hid (Ga.refl Q B none w0)
  clear h H0
  have hx0 := fun W => (bk_at W).1
  have hx1 := fun W => (bk_at W).2.1
  have hx2 := fun W => (bk_at W).2.2
  unfold bkA at hx0 hx1 hx2
  go_enter Tryz.func97, Tryz.ntmps97
  go_wp2_with fail
  go_step3
  go_wp2_with fail
  refine (gbits_some HR0.out 1 (by decide) q1).mono ?_
  rintro e w1 ⟨rfl, hr1, hg1⟩
  have HR1 := Lib.hid hr1
  have HG1 := Lib.hid (HG0.out.trans hg1 (Anew.refl _ _))
  go_wp2_with fail
  go_step3
  go_wp2_with fail
  refine (buckets_any _).mono ?_
  rintro e wb ⟨rfl, hb1⟩
  have HRb := Lib.hid (HR1.out.below hb1)
  have HGb := Lib.hid (HG1.out.trans (Ga.ofBelow hb1) (Anew.refl _ _))
  clear HR1 HG1 hr1 hg1 hb1
  have HR1 := HRb
  have HG1 := HGb
  clear HRb HGb
  have y0 := cell_al (o := (.cells #[.int .u64 2, .int .i64 2, .int .i64 (-63), .int .i64 64, .int .i64 7] 223)) HR1.out.cell.2.1
  go_wp2_with fail
  refine wp_loop_rounds 4 ?_
  rw [rounds_succ]
  go_wp2_with fail
  refine (gbits_some (HR1.out.below (al_b wb (.cells #[.int .u64 2, .int .i64 2, .int .i64 (-63), .int .i64 64, .int .i64 7] 223))) 1 (by decide) q2).mono ?_
  rintro e w2 ⟨rfl, hr2, hg2⟩
  have HR2 := Lib.hid hr2
  have HG2 := Lib.hid ((HG1.out.trans (Ga.ofBelow (al_b wb (.cells #[.int .u64 2, .int .i64 2, .int .i64 (-63), .int .i64 64, .int .i64 7] 223))) (Anew.refl _ _)).trans hg2 (Anew.refl _ _))
  have hbk2 : w2.heap[wb.heap.size]? = some (.cells #[.int .u64 2, .int .i64 2, .int .i64 (-63), .int .i64 64, .int .i64 7] 223 (0, 0)) := (hg2.block _ (by simp) (by have := heap_lt HR1.out.top; omega) (by have := heap_lt HR1.out.rd.cells; omega) (by simp)).trans (heap_alloc_new wb _)
  obtain ⟨-, -, m2, m4⟩ := bucket_cells hbk2
  go_wp2_with fail
  go_region_held3 (fun w' => w'.cell? ⟨wb.heap.size, 4, none⟩ = some (.int .i64 7) ∧ w'.cell? ⟨wb.heap.size, 2, none⟩ = some (.int .i64 (-63))) (first | assumption | exact ⟨by assumption, by assumption⟩ | exact ⟨m4, m2⟩) (first | (go_at_call 95; refine (gbits_some (HR2.out.below (drew_b _)) 7 (by decide) qy).mono ?_; rintro e w8 ⟨rfl, hr8, hg8⟩; have hbk8 := (hg8.block wb.heap.size (heap_lt hbk2) (by have := heap_lt HR1.out.top; omega) (by have := heap_lt HR1.out.rd.cells; omega) (by simp)).trans hbk2; obtain ⟨-, -, n2, n4⟩ := bucket_cells hbk8; have HR8 := Lib.hid hr8; have HG8 := Lib.hid ((HG2.out.trans (Ga.ofBelow (drew_b _)) (Anew.refl _ _)).trans hg8 (Anew.refl _ _)); clear hr8 hg8))
  go_wp2
  rw [Exit.noGoto_ret]
  go_ret
  exact .inl ⟨(y + 18446744073709551553) % 18446744073709551616, c, by
      unfold Gz.chgD
      rw [q1]
      simp only [Option.bind_some]
      rw [if_neg z1]
      rw [q2]
      simp only [Option.bind_some, if_true]
      rw [qy]
      rfl, Nat.mod_lt _ (by decide), rfl, HR8.out, HG8.out⟩
set_option maxHeartbeats 2000000 in
set_option maxRecDepth 100000 in
theorem chg_b0n {w0 : World} {Q B at_ lo hi step : Nat} {v : Value} {l : List UInt8} {is : Bool} {wl wr : Int} (h : Rg w0 Q B v at_ l lo hi false step wl wr is) {a1 x1 : Nat} (q1 : Gz.rdk (Bt.unpack l) at_ 1 = some (x1, a1)) (z1 : x1 ≠ 0) {a2 : Nat} (q2 : Gz.rdk (Bt.unpack l) a1 1 = some (0, a2)) (qy : Gz.rdk (Bt.unpack l) a2 7 = none) :
    Calls Tryz.prog 97 #[.pointer (some ⟨Q, 0, none⟩)] w0 fun e w' => ChgPost w0 Q B at_ lo hi step v l wl wr is e w' := by
  have g1 : ((x1 : Int) == 0) = false := by simp; omega
  have H0 := Lib.hid h
  have HR0 := Lib.hid h
  have HG0 := Lib.hid (Ga.refl Q B none w0)
  clear h H0
  have hx0 := fun W => (bk_at W).1
  have hx1 := fun W => (bk_at W).2.1
  have hx2 := fun W => (bk_at W).2.2
  unfold bkA at hx0 hx1 hx2
  go_enter Tryz.func97, Tryz.ntmps97
  go_wp2_with fail
  go_step3
  go_wp2_with fail
  refine (gbits_some HR0.out 1 (by decide) q1).mono ?_
  rintro e w1 ⟨rfl, hr1, hg1⟩
  have HR1 := Lib.hid hr1
  have HG1 := Lib.hid (HG0.out.trans hg1 (Anew.refl _ _))
  go_wp2_with fail
  go_step3
  go_wp2_with fail
  refine (buckets_any _).mono ?_
  rintro e wb ⟨rfl, hb1⟩
  have HRb := Lib.hid (HR1.out.below hb1)
  have HGb := Lib.hid (HG1.out.trans (Ga.ofBelow hb1) (Anew.refl _ _))
  clear HR1 HG1 hr1 hg1 hb1
  have HR1 := HRb
  have HG1 := HGb
  clear HRb HGb
  have y0 := cell_al (o := (.cells #[.int .u64 2, .int .i64 2, .int .i64 (-63), .int .i64 64, .int .i64 7] 223)) HR1.out.cell.2.1
  go_wp2_with fail
  refine wp_loop_rounds 4 ?_
  rw [rounds_succ]
  go_wp2_with fail
  refine (gbits_some (HR1.out.below (al_b wb (.cells #[.int .u64 2, .int .i64 2, .int .i64 (-63), .int .i64 64, .int .i64 7] 223))) 1 (by decide) q2).mono ?_
  rintro e w2 ⟨rfl, hr2, hg2⟩
  have HR2 := Lib.hid hr2
  have HG2 := Lib.hid ((HG1.out.trans (Ga.ofBelow (al_b wb (.cells #[.int .u64 2, .int .i64 2, .int .i64 (-63), .int .i64 64, .int .i64 7] 223))) (Anew.refl _ _)).trans hg2 (Anew.refl _ _))
  have hbk2 : w2.heap[wb.heap.size]? = some (.cells #[.int .u64 2, .int .i64 2, .int .i64 (-63), .int .i64 64, .int .i64 7] 223 (0, 0)) := (hg2.block _ (by simp) (by have := heap_lt HR1.out.top; omega) (by have := heap_lt HR1.out.rd.cells; omega) (by simp)).trans (heap_alloc_new wb _)
  obtain ⟨-, -, m2, m4⟩ := bucket_cells hbk2
  go_wp2_with fail
  go_region_held3 (fun w' => w'.cell? ⟨wb.heap.size, 4, none⟩ = some (.int .i64 7) ∧ w'.cell? ⟨wb.heap.size, 2, none⟩ = some (.int .i64 (-63))) (first | assumption | exact ⟨by assumption, by assumption⟩ | exact ⟨m4, m2⟩) (first | (go_at_call 95; refine (gbits_none (HR2.out.below (drew_b _)) 7 (by decide) qy).mono ?_; rintro e w8 ⟨rfl, hr8, hg8⟩; have hbk8 := (hg8.block wb.heap.size (heap_lt hbk2) (by have := heap_lt HR1.out.top; omega) (by have := heap_lt HR1.out.rd.cells; omega) (by simp)).trans hbk2; obtain ⟨-, -, n2, n4⟩ := bucket_cells hbk8; have HR8 := Lib.hid hr8; have HG8 := Lib.hid ((HG2.out.trans (Ga.ofBelow (drew_b _)) (Anew.refl _ _)).trans hg8 (Anew.refl _ _)); clear hr8 hg8))
  go_wp2
  rw [Exit.noGoto_ret]
  go_ret
  exact .inr ⟨by
      unfold Gz.chgD
      rw [q1]
      simp only [Option.bind_some]
      rw [if_neg z1]
      rw [q2]
      simp only [Option.bind_some, if_true]
      rw [qy]
      rfl, 18446744073709551553, a2, by decide, rfl, HR8.out, HG8.out⟩
set_option maxHeartbeats 2000000 in
set_option maxRecDepth 100000 in
theorem chg_f0 {w0 : World} {Q B at_ lo hi step : Nat} {v : Value} {l : List UInt8} {is : Bool} {wl wr : Int} (h : Rg w0 Q B v at_ l lo hi false step wl wr is) {a1 x1 : Nat} (q1 : Gz.rdk (Bt.unpack l) at_ 1 = some (x1, a1)) (z1 : x1 ≠ 0) (q2 : Gz.rdk (Bt.unpack l) a1 1 = none) :
    Calls Tryz.prog 97 #[.pointer (some ⟨Q, 0, none⟩)] w0 fun e w' => ChgPost w0 Q B at_ lo hi step v l wl wr is e w' := by
  have g1 : ((x1 : Int) == 0) = false := by simp; omega
  have H0 := Lib.hid h
  have HR0 := Lib.hid h
  have HG0 := Lib.hid (Ga.refl Q B none w0)
  clear h H0
  have hx0 := fun W => (bk_at W).1
  have hx1 := fun W => (bk_at W).2.1
  have hx2 := fun W => (bk_at W).2.2
  unfold bkA at hx0 hx1 hx2
  go_enter Tryz.func97, Tryz.ntmps97
  go_wp2_with fail
  go_step3
  go_wp2_with fail
  refine (gbits_some HR0.out 1 (by decide) q1).mono ?_
  rintro e w1 ⟨rfl, hr1, hg1⟩
  have HR1 := Lib.hid hr1
  have HG1 := Lib.hid (HG0.out.trans hg1 (Anew.refl _ _))
  go_wp2_with fail
  go_step3
  go_wp2_with fail
  refine (buckets_any _).mono ?_
  rintro e wb ⟨rfl, hb1⟩
  have HRb := Lib.hid (HR1.out.below hb1)
  have HGb := Lib.hid (HG1.out.trans (Ga.ofBelow hb1) (Anew.refl _ _))
  clear HR1 HG1 hr1 hg1 hb1
  have HR1 := HRb
  have HG1 := HGb
  clear HRb HGb
  have y0 := cell_al (o := (.cells #[.int .u64 2, .int .i64 2, .int .i64 (-63), .int .i64 64, .int .i64 7] 223)) HR1.out.cell.2.1
  go_wp2_with fail
  refine wp_loop_rounds 4 ?_
  rw [rounds_succ]
  go_wp2_with fail
  refine (gbits_none (HR1.out.below (al_b wb (.cells #[.int .u64 2, .int .i64 2, .int .i64 (-63), .int .i64 64, .int .i64 7] 223))) 1 (by decide) q2).mono ?_
  rintro e w2 ⟨rfl, hr2, hg2⟩
  have HR2 := Lib.hid hr2
  have HG2 := Lib.hid ((HG1.out.trans (Ga.ofBelow (al_b wb (.cells #[.int .u64 2, .int .i64 2, .int .i64 (-63), .int .i64 64, .int .i64 7] 223))) (Anew.refl _ _)).trans hg2 (Anew.refl _ _))
  have hbk2 : w2.heap[wb.heap.size]? = some (.cells #[.int .u64 2, .int .i64 2, .int .i64 (-63), .int .i64 64, .int .i64 7] 223 (0, 0)) := (hg2.block _ (by simp) (by have := heap_lt HR1.out.top; omega) (by have := heap_lt HR1.out.rd.cells; omega) (by simp)).trans (heap_alloc_new wb _)
  obtain ⟨-, -, m2, m4⟩ := bucket_cells hbk2
  go_wp2_with fail
  go_region_held3 (fun w' => w'.cell? ⟨wb.heap.size, 4, none⟩ = some (.int .i64 7) ∧ w'.cell? ⟨wb.heap.size, 2, none⟩ = some (.int .i64 (-63))) (first | assumption | exact ⟨by assumption, by assumption⟩ | exact ⟨m4, m2⟩) (first | (go_at_call 95; refine (gbits_bad (HR2.out.below (drew_b _)) 7).mono ?_; rintro e w8 ⟨xb, ab, hxl, rfl, hr8, hg8⟩; have hbk8 := (hg8.block wb.heap.size (heap_lt hbk2) (by have := heap_lt HR1.out.top; omega) (by have := heap_lt HR1.out.rd.cells; omega) (by simp)).trans hbk2; obtain ⟨-, -, n2, n4⟩ := bucket_cells hbk8; have HR8 := Lib.hid hr8; have HG8 := Lib.hid ((HG2.out.trans (Ga.ofBelow (drew_b _)) (Anew.refl _ _)).trans hg8 (Anew.refl _ _)); clear hr8 hg8))
  go_wp2
  rw [Exit.noGoto_ret]
  go_ret
  exact .inr ⟨by
      unfold Gz.chgD
      rw [q1]
      simp only [Option.bind_some]
      rw [if_neg z1]
      rw [q2]
      rfl, (xb + 18446744073709551553) % 18446744073709551616, ab, Nat.mod_lt _ (by decide), congrArg (fun z => Ending.returned (Value.int .u64 z)) (by simp only [IntKind.wrap_u64]; omega), HR8.out, HG8.out⟩
set_option maxHeartbeats 2000000 in
set_option maxRecDepth 100000 in
theorem chg_b1s {w0 : World} {Q B at_ lo hi step : Nat} {v : Value} {l : List UInt8} {is : Bool} {wl wr : Int} (h : Rg w0 Q B v at_ l lo hi false step wl wr is) {a1 x1 : Nat} (q1 : Gz.rdk (Bt.unpack l) at_ 1 = some (x1, a1)) (z1 : x1 ≠ 0) {a2 x2 : Nat} (q2 : Gz.rdk (Bt.unpack l) a1 1 = some (x2, a2)) (z2 : x2 ≠ 0) {a3 : Nat} (q3 : Gz.rdk (Bt.unpack l) a2 1 = some (0, a3)) {y c : Nat} (qy : Gz.rdk (Bt.unpack l) a3 9 = some (y, c)) :
    Calls Tryz.prog 97 #[.pointer (some ⟨Q, 0, none⟩)] w0 fun e w' => ChgPost w0 Q B at_ lo hi step v l wl wr is e w' := by
  have hyl := rdk_lt (by decide) qy
  have hw : IntKind.u64.wrap ((y : Int) + 18446744073709551361) = (((y + 18446744073709551361) % 18446744073709551616 : Nat) : Int) := by rw [IntKind.wrap_u64]; omega
  have g2 : ((x2 : Int) == 0) = false := by simp; omega
  have g1 : ((x1 : Int) == 0) = false := by simp; omega
  have H0 := Lib.hid h
  have HR0 := Lib.hid h
  have HG0 := Lib.hid (Ga.refl Q B none w0)
  clear h H0
  have hx0 := fun W => (bk_at W).1
  have hx1 := fun W => (bk_at W).2.1
  have hx2 := fun W => (bk_at W).2.2
  unfold bkA at hx0 hx1 hx2
  go_enter Tryz.func97, Tryz.ntmps97
  go_wp2_with fail
  go_step3
  go_wp2_with fail
  refine (gbits_some HR0.out 1 (by decide) q1).mono ?_
  rintro e w1 ⟨rfl, hr1, hg1⟩
  have HR1 := Lib.hid hr1
  have HG1 := Lib.hid (HG0.out.trans hg1 (Anew.refl _ _))
  go_wp2_with fail
  go_step3
  go_wp2_with fail
  refine (buckets_any _).mono ?_
  rintro e wb ⟨rfl, hb1⟩
  have HRb := Lib.hid (HR1.out.below hb1)
  have HGb := Lib.hid (HG1.out.trans (Ga.ofBelow hb1) (Anew.refl _ _))
  clear HR1 HG1 hr1 hg1 hb1
  have HR1 := HRb
  have HG1 := HGb
  clear HRb HGb
  have y0 := cell_al (o := (.cells #[.int .u64 2, .int .i64 2, .int .i64 (-63), .int .i64 64, .int .i64 7] 223)) HR1.out.cell.2.1
  go_wp2_with fail
  refine wp_loop_rounds 4 ?_
  rw [rounds_succ]
  go_wp2_with fail
  refine (gbits_some (HR1.out.below (al_b wb (.cells #[.int .u64 2, .int .i64 2, .int .i64 (-63), .int .i64 64, .int .i64 7] 223))) 1 (by decide) q2).mono ?_
  rintro e w2 ⟨rfl, hr2, hg2⟩
  have HR2 := Lib.hid hr2
  have HG2 := Lib.hid ((HG1.out.trans (Ga.ofBelow (al_b wb (.cells #[.int .u64 2, .int .i64 2, .int .i64 (-63), .int .i64 64, .int .i64 7] 223))) (Anew.refl _ _)).trans hg2 (Anew.refl _ _))
  have hbk2 : w2.heap[wb.heap.size]? = some (.cells #[.int .u64 2, .int .i64 2, .int .i64 (-63), .int .i64 64, .int .i64 7] 223 (0, 0)) := (hg2.block _ (by simp) (by have := heap_lt HR1.out.top; omega) (by have := heap_lt HR1.out.rd.cells; omega) (by simp)).trans (heap_alloc_new wb _)
  have y1 := cell_al (o := (.cells #[.int .u64 6, .int .i64 3, .int .i64 (-255), .int .i64 256, .int .i64 9] 223)) HR2.out.cell.2.1
  go_wp2_with fail
  rw [rounds_succ]
  go_wp2_with fail
  refine (gbits_some (HR2.out.below (al_b w2 (.cells #[.int .u64 6, .int .i64 3, .int .i64 (-255), .int .i64 256, .int .i64 9] 223))) 1 (by decide) q3).mono ?_
  rintro e w3 ⟨rfl, hr3, hg3⟩
  have HR3 := Lib.hid hr3
  have HG3 := Lib.hid ((HG2.out.trans (Ga.ofBelow (al_b w2 (.cells #[.int .u64 6, .int .i64 3, .int .i64 (-255), .int .i64 256, .int .i64 9] 223))) (Anew.refl _ _)).trans hg3 (Anew.refl _ _))
  have hbk3 : w3.heap[w2.heap.size]? = some (.cells #[.int .u64 6, .int .i64 3, .int .i64 (-255), .int .i64 256, .int .i64 9] 223 (0, 0)) := (hg3.block _ (by simp) (by have := heap_lt HR2.out.top; omega) (by have := heap_lt HR2.out.rd.cells; omega) (by simp)).trans (heap_alloc_new w2 _)
  obtain ⟨-, -, m2, m4⟩ := bucket_cells hbk3
  go_wp2_with fail
  go_region_held3 (fun w' => w'.cell? ⟨w2.heap.size, 4, none⟩ = some (.int .i64 9) ∧ w'.cell? ⟨w2.heap.size, 2, none⟩ = some (.int .i64 (-255))) (first | assumption | exact ⟨by assumption, by assumption⟩ | exact ⟨m4, m2⟩) (first | (go_at_call 95; refine (gbits_some (HR3.out.below (drew_b _)) 9 (by decide) qy).mono ?_; rintro e w8 ⟨rfl, hr8, hg8⟩; have hbk8 := (hg8.block w2.heap.size (heap_lt hbk3) (by have := heap_lt HR2.out.top; omega) (by have := heap_lt HR2.out.rd.cells; omega) (by simp)).trans hbk3; obtain ⟨-, -, n2, n4⟩ := bucket_cells hbk8; have HR8 := Lib.hid hr8; have HG8 := Lib.hid ((HG3.out.trans (Ga.ofBelow (drew_b _)) (Anew.refl _ _)).trans hg8 (Anew.refl _ _)); clear hr8 hg8))
  go_wp2
  rw [Exit.noGoto_ret]
  go_ret
  exact .inl ⟨(y + 18446744073709551361) % 18446744073709551616, c, by
      unfold Gz.chgD
      rw [q1]
      simp only [Option.bind_some]
      rw [if_neg z1]
      rw [q2]
      simp only [Option.bind_some]
      rw [if_neg z2]
      rw [q3]
      simp only [Option.bind_some, if_true]
      rw [qy]
      rfl, Nat.mod_lt _ (by decide), rfl, HR8.out, HG8.out⟩
set_option maxHeartbeats 2000000 in
set_option maxRecDepth 100000 in
theorem chg_b1n {w0 : World} {Q B at_ lo hi step : Nat} {v : Value} {l : List UInt8} {is : Bool} {wl wr : Int} (h : Rg w0 Q B v at_ l lo hi false step wl wr is) {a1 x1 : Nat} (q1 : Gz.rdk (Bt.unpack l) at_ 1 = some (x1, a1)) (z1 : x1 ≠ 0) {a2 x2 : Nat} (q2 : Gz.rdk (Bt.unpack l) a1 1 = some (x2, a2)) (z2 : x2 ≠ 0) {a3 : Nat} (q3 : Gz.rdk (Bt.unpack l) a2 1 = some (0, a3)) (qy : Gz.rdk (Bt.unpack l) a3 9 = none) :
    Calls Tryz.prog 97 #[.pointer (some ⟨Q, 0, none⟩)] w0 fun e w' => ChgPost w0 Q B at_ lo hi step v l wl wr is e w' := by
  have g2 : ((x2 : Int) == 0) = false := by simp; omega
  have g1 : ((x1 : Int) == 0) = false := by simp; omega
  have H0 := Lib.hid h
  have HR0 := Lib.hid h
  have HG0 := Lib.hid (Ga.refl Q B none w0)
  clear h H0
  have hx0 := fun W => (bk_at W).1
  have hx1 := fun W => (bk_at W).2.1
  have hx2 := fun W => (bk_at W).2.2
  unfold bkA at hx0 hx1 hx2
  go_enter Tryz.func97, Tryz.ntmps97
  go_wp2_with fail
  go_step3
  go_wp2_with fail
  refine (gbits_some HR0.out 1 (by decide) q1).mono ?_
  rintro e w1 ⟨rfl, hr1, hg1⟩
  have HR1 := Lib.hid hr1
  have HG1 := Lib.hid (HG0.out.trans hg1 (Anew.refl _ _))
  go_wp2_with fail
  go_step3
  go_wp2_with fail
  refine (buckets_any _).mono ?_
  rintro e wb ⟨rfl, hb1⟩
  have HRb := Lib.hid (HR1.out.below hb1)
  have HGb := Lib.hid (HG1.out.trans (Ga.ofBelow hb1) (Anew.refl _ _))
  clear HR1 HG1 hr1 hg1 hb1
  have HR1 := HRb
  have HG1 := HGb
  clear HRb HGb
  have y0 := cell_al (o := (.cells #[.int .u64 2, .int .i64 2, .int .i64 (-63), .int .i64 64, .int .i64 7] 223)) HR1.out.cell.2.1
  go_wp2_with fail
  refine wp_loop_rounds 4 ?_
  rw [rounds_succ]
  go_wp2_with fail
  refine (gbits_some (HR1.out.below (al_b wb (.cells #[.int .u64 2, .int .i64 2, .int .i64 (-63), .int .i64 64, .int .i64 7] 223))) 1 (by decide) q2).mono ?_
  rintro e w2 ⟨rfl, hr2, hg2⟩
  have HR2 := Lib.hid hr2
  have HG2 := Lib.hid ((HG1.out.trans (Ga.ofBelow (al_b wb (.cells #[.int .u64 2, .int .i64 2, .int .i64 (-63), .int .i64 64, .int .i64 7] 223))) (Anew.refl _ _)).trans hg2 (Anew.refl _ _))
  have hbk2 : w2.heap[wb.heap.size]? = some (.cells #[.int .u64 2, .int .i64 2, .int .i64 (-63), .int .i64 64, .int .i64 7] 223 (0, 0)) := (hg2.block _ (by simp) (by have := heap_lt HR1.out.top; omega) (by have := heap_lt HR1.out.rd.cells; omega) (by simp)).trans (heap_alloc_new wb _)
  have y1 := cell_al (o := (.cells #[.int .u64 6, .int .i64 3, .int .i64 (-255), .int .i64 256, .int .i64 9] 223)) HR2.out.cell.2.1
  go_wp2_with fail
  rw [rounds_succ]
  go_wp2_with fail
  refine (gbits_some (HR2.out.below (al_b w2 (.cells #[.int .u64 6, .int .i64 3, .int .i64 (-255), .int .i64 256, .int .i64 9] 223))) 1 (by decide) q3).mono ?_
  rintro e w3 ⟨rfl, hr3, hg3⟩
  have HR3 := Lib.hid hr3
  have HG3 := Lib.hid ((HG2.out.trans (Ga.ofBelow (al_b w2 (.cells #[.int .u64 6, .int .i64 3, .int .i64 (-255), .int .i64 256, .int .i64 9] 223))) (Anew.refl _ _)).trans hg3 (Anew.refl _ _))
  have hbk3 : w3.heap[w2.heap.size]? = some (.cells #[.int .u64 6, .int .i64 3, .int .i64 (-255), .int .i64 256, .int .i64 9] 223 (0, 0)) := (hg3.block _ (by simp) (by have := heap_lt HR2.out.top; omega) (by have := heap_lt HR2.out.rd.cells; omega) (by simp)).trans (heap_alloc_new w2 _)
  obtain ⟨-, -, m2, m4⟩ := bucket_cells hbk3
  go_wp2_with fail
  go_region_held3 (fun w' => w'.cell? ⟨w2.heap.size, 4, none⟩ = some (.int .i64 9) ∧ w'.cell? ⟨w2.heap.size, 2, none⟩ = some (.int .i64 (-255))) (first | assumption | exact ⟨by assumption, by assumption⟩ | exact ⟨m4, m2⟩) (first | (go_at_call 95; refine (gbits_none (HR3.out.below (drew_b _)) 9 (by decide) qy).mono ?_; rintro e w8 ⟨rfl, hr8, hg8⟩; have hbk8 := (hg8.block w2.heap.size (heap_lt hbk3) (by have := heap_lt HR2.out.top; omega) (by have := heap_lt HR2.out.rd.cells; omega) (by simp)).trans hbk3; obtain ⟨-, -, n2, n4⟩ := bucket_cells hbk8; have HR8 := Lib.hid hr8; have HG8 := Lib.hid ((HG3.out.trans (Ga.ofBelow (drew_b _)) (Anew.refl _ _)).trans hg8 (Anew.refl _ _)); clear hr8 hg8))
  go_wp2
  rw [Exit.noGoto_ret]
  go_ret
  exact .inr ⟨by
      unfold Gz.chgD
      rw [q1]
      simp only [Option.bind_some]
      rw [if_neg z1]
      rw [q2]
      simp only [Option.bind_some]
      rw [if_neg z2]
      rw [q3]
      simp only [Option.bind_some, if_true]
      rw [qy]
      rfl, 18446744073709551361, a3, by decide, rfl, HR8.out, HG8.out⟩
set_option maxHeartbeats 2000000 in
set_option maxRecDepth 100000 in
theorem chg_f1 {w0 : World} {Q B at_ lo hi step : Nat} {v : Value} {l : List UInt8} {is : Bool} {wl wr : Int} (h : Rg w0 Q B v at_ l lo hi false step wl wr is) {a1 x1 : Nat} (q1 : Gz.rdk (Bt.unpack l) at_ 1 = some (x1, a1)) (z1 : x1 ≠ 0) {a2 x2 : Nat} (q2 : Gz.rdk (Bt.unpack l) a1 1 = some (x2, a2)) (z2 : x2 ≠ 0) (q3 : Gz.rdk (Bt.unpack l) a2 1 = none) :
    Calls Tryz.prog 97 #[.pointer (some ⟨Q, 0, none⟩)] w0 fun e w' => ChgPost w0 Q B at_ lo hi step v l wl wr is e w' := by
  have g2 : ((x2 : Int) == 0) = false := by simp; omega
  have g1 : ((x1 : Int) == 0) = false := by simp; omega
  have H0 := Lib.hid h
  have HR0 := Lib.hid h
  have HG0 := Lib.hid (Ga.refl Q B none w0)
  clear h H0
  have hx0 := fun W => (bk_at W).1
  have hx1 := fun W => (bk_at W).2.1
  have hx2 := fun W => (bk_at W).2.2
  unfold bkA at hx0 hx1 hx2
  go_enter Tryz.func97, Tryz.ntmps97
  go_wp2_with fail
  go_step3
  go_wp2_with fail
  refine (gbits_some HR0.out 1 (by decide) q1).mono ?_
  rintro e w1 ⟨rfl, hr1, hg1⟩
  have HR1 := Lib.hid hr1
  have HG1 := Lib.hid (HG0.out.trans hg1 (Anew.refl _ _))
  go_wp2_with fail
  go_step3
  go_wp2_with fail
  refine (buckets_any _).mono ?_
  rintro e wb ⟨rfl, hb1⟩
  have HRb := Lib.hid (HR1.out.below hb1)
  have HGb := Lib.hid (HG1.out.trans (Ga.ofBelow hb1) (Anew.refl _ _))
  clear HR1 HG1 hr1 hg1 hb1
  have HR1 := HRb
  have HG1 := HGb
  clear HRb HGb
  have y0 := cell_al (o := (.cells #[.int .u64 2, .int .i64 2, .int .i64 (-63), .int .i64 64, .int .i64 7] 223)) HR1.out.cell.2.1
  go_wp2_with fail
  refine wp_loop_rounds 4 ?_
  rw [rounds_succ]
  go_wp2_with fail
  refine (gbits_some (HR1.out.below (al_b wb (.cells #[.int .u64 2, .int .i64 2, .int .i64 (-63), .int .i64 64, .int .i64 7] 223))) 1 (by decide) q2).mono ?_
  rintro e w2 ⟨rfl, hr2, hg2⟩
  have HR2 := Lib.hid hr2
  have HG2 := Lib.hid ((HG1.out.trans (Ga.ofBelow (al_b wb (.cells #[.int .u64 2, .int .i64 2, .int .i64 (-63), .int .i64 64, .int .i64 7] 223))) (Anew.refl _ _)).trans hg2 (Anew.refl _ _))
  have hbk2 : w2.heap[wb.heap.size]? = some (.cells #[.int .u64 2, .int .i64 2, .int .i64 (-63), .int .i64 64, .int .i64 7] 223 (0, 0)) := (hg2.block _ (by simp) (by have := heap_lt HR1.out.top; omega) (by have := heap_lt HR1.out.rd.cells; omega) (by simp)).trans (heap_alloc_new wb _)
  have y1 := cell_al (o := (.cells #[.int .u64 6, .int .i64 3, .int .i64 (-255), .int .i64 256, .int .i64 9] 223)) HR2.out.cell.2.1
  go_wp2_with fail
  rw [rounds_succ]
  go_wp2_with fail
  refine (gbits_none (HR2.out.below (al_b w2 (.cells #[.int .u64 6, .int .i64 3, .int .i64 (-255), .int .i64 256, .int .i64 9] 223))) 1 (by decide) q3).mono ?_
  rintro e w3 ⟨rfl, hr3, hg3⟩
  have HR3 := Lib.hid hr3
  have HG3 := Lib.hid ((HG2.out.trans (Ga.ofBelow (al_b w2 (.cells #[.int .u64 6, .int .i64 3, .int .i64 (-255), .int .i64 256, .int .i64 9] 223))) (Anew.refl _ _)).trans hg3 (Anew.refl _ _))
  have hbk3 : w3.heap[w2.heap.size]? = some (.cells #[.int .u64 6, .int .i64 3, .int .i64 (-255), .int .i64 256, .int .i64 9] 223 (0, 0)) := (hg3.block _ (by simp) (by have := heap_lt HR2.out.top; omega) (by have := heap_lt HR2.out.rd.cells; omega) (by simp)).trans (heap_alloc_new w2 _)
  obtain ⟨-, -, m2, m4⟩ := bucket_cells hbk3
  go_wp2_with fail
  go_region_held3 (fun w' => w'.cell? ⟨w2.heap.size, 4, none⟩ = some (.int .i64 9) ∧ w'.cell? ⟨w2.heap.size, 2, none⟩ = some (.int .i64 (-255))) (first | assumption | exact ⟨by assumption, by assumption⟩ | exact ⟨m4, m2⟩) (first | (go_at_call 95; refine (gbits_bad (HR3.out.below (drew_b _)) 9).mono ?_; rintro e w8 ⟨xb, ab, hxl, rfl, hr8, hg8⟩; have hbk8 := (hg8.block w2.heap.size (heap_lt hbk3) (by have := heap_lt HR2.out.top; omega) (by have := heap_lt HR2.out.rd.cells; omega) (by simp)).trans hbk3; obtain ⟨-, -, n2, n4⟩ := bucket_cells hbk8; have HR8 := Lib.hid hr8; have HG8 := Lib.hid ((HG3.out.trans (Ga.ofBelow (drew_b _)) (Anew.refl _ _)).trans hg8 (Anew.refl _ _)); clear hr8 hg8))
  go_wp2
  rw [Exit.noGoto_ret]
  go_ret
  exact .inr ⟨by
      unfold Gz.chgD
      rw [q1]
      simp only [Option.bind_some]
      rw [if_neg z1]
      rw [q2]
      simp only [Option.bind_some]
      rw [if_neg z2]
      rw [q3]
      rfl, (xb + 18446744073709551361) % 18446744073709551616, ab, Nat.mod_lt _ (by decide), congrArg (fun z => Ending.returned (Value.int .u64 z)) (by simp only [IntKind.wrap_u64]; omega), HR8.out, HG8.out⟩
set_option maxHeartbeats 2000000 in
set_option maxRecDepth 100000 in
theorem chg_b2s {w0 : World} {Q B at_ lo hi step : Nat} {v : Value} {l : List UInt8} {is : Bool} {wl wr : Int} (h : Rg w0 Q B v at_ l lo hi false step wl wr is) {a1 x1 : Nat} (q1 : Gz.rdk (Bt.unpack l) at_ 1 = some (x1, a1)) (z1 : x1 ≠ 0) {a2 x2 : Nat} (q2 : Gz.rdk (Bt.unpack l) a1 1 = some (x2, a2)) (z2 : x2 ≠ 0) {a3 x3 : Nat} (q3 : Gz.rdk (Bt.unpack l) a2 1 = some (x3, a3)) (z3 : x3 ≠ 0) {a4 : Nat} (q4 : Gz.rdk (Bt.unpack l) a3 1 = some (0, a4)) {y c : Nat} (qy : Gz.rdk (Bt.unpack l) a4 12 = some (y, c)) :
    Calls Tryz.prog 97 #[.pointer (some ⟨Q, 0, none⟩)] w0 fun e w' => ChgPost w0 Q B at_ lo hi step v l wl wr is e w' := by
  have hyl := rdk_lt (by decide) qy
  have hw : IntKind.u64.wrap ((y : Int) + 18446744073709549569) = (((y + 18446744073709549569) % 18446744073709551616 : Nat) : Int) := by rw [IntKind.wrap_u64]; omega
  have g3 : ((x3 : Int) == 0) = false := by simp; omega
  have g2 : ((x2 : Int) == 0) = false := by simp; omega
  have g1 : ((x1 : Int) == 0) = false := by simp; omega
  have H0 := Lib.hid h
  have HR0 := Lib.hid h
  have HG0 := Lib.hid (Ga.refl Q B none w0)
  clear h H0
  have hx0 := fun W => (bk_at W).1
  have hx1 := fun W => (bk_at W).2.1
  have hx2 := fun W => (bk_at W).2.2
  unfold bkA at hx0 hx1 hx2
  go_enter Tryz.func97, Tryz.ntmps97
  go_wp2_with fail
  go_step3
  go_wp2_with fail
  refine (gbits_some HR0.out 1 (by decide) q1).mono ?_
  rintro e w1 ⟨rfl, hr1, hg1⟩
  have HR1 := Lib.hid hr1
  have HG1 := Lib.hid (HG0.out.trans hg1 (Anew.refl _ _))
  go_wp2_with fail
  go_step3
  go_wp2_with fail
  refine (buckets_any _).mono ?_
  rintro e wb ⟨rfl, hb1⟩
  have HRb := Lib.hid (HR1.out.below hb1)
  have HGb := Lib.hid (HG1.out.trans (Ga.ofBelow hb1) (Anew.refl _ _))
  clear HR1 HG1 hr1 hg1 hb1
  have HR1 := HRb
  have HG1 := HGb
  clear HRb HGb
  have y0 := cell_al (o := (.cells #[.int .u64 2, .int .i64 2, .int .i64 (-63), .int .i64 64, .int .i64 7] 223)) HR1.out.cell.2.1
  go_wp2_with fail
  refine wp_loop_rounds 4 ?_
  rw [rounds_succ]
  go_wp2_with fail
  refine (gbits_some (HR1.out.below (al_b wb (.cells #[.int .u64 2, .int .i64 2, .int .i64 (-63), .int .i64 64, .int .i64 7] 223))) 1 (by decide) q2).mono ?_
  rintro e w2 ⟨rfl, hr2, hg2⟩
  have HR2 := Lib.hid hr2
  have HG2 := Lib.hid ((HG1.out.trans (Ga.ofBelow (al_b wb (.cells #[.int .u64 2, .int .i64 2, .int .i64 (-63), .int .i64 64, .int .i64 7] 223))) (Anew.refl _ _)).trans hg2 (Anew.refl _ _))
  have hbk2 : w2.heap[wb.heap.size]? = some (.cells #[.int .u64 2, .int .i64 2, .int .i64 (-63), .int .i64 64, .int .i64 7] 223 (0, 0)) := (hg2.block _ (by simp) (by have := heap_lt HR1.out.top; omega) (by have := heap_lt HR1.out.rd.cells; omega) (by simp)).trans (heap_alloc_new wb _)
  have y1 := cell_al (o := (.cells #[.int .u64 6, .int .i64 3, .int .i64 (-255), .int .i64 256, .int .i64 9] 223)) HR2.out.cell.2.1
  go_wp2_with fail
  rw [rounds_succ]
  go_wp2_with fail
  refine (gbits_some (HR2.out.below (al_b w2 (.cells #[.int .u64 6, .int .i64 3, .int .i64 (-255), .int .i64 256, .int .i64 9] 223))) 1 (by decide) q3).mono ?_
  rintro e w3 ⟨rfl, hr3, hg3⟩
  have HR3 := Lib.hid hr3
  have HG3 := Lib.hid ((HG2.out.trans (Ga.ofBelow (al_b w2 (.cells #[.int .u64 6, .int .i64 3, .int .i64 (-255), .int .i64 256, .int .i64 9] 223))) (Anew.refl _ _)).trans hg3 (Anew.refl _ _))
  have hbk3 : w3.heap[w2.heap.size]? = some (.cells #[.int .u64 6, .int .i64 3, .int .i64 (-255), .int .i64 256, .int .i64 9] 223 (0, 0)) := (hg3.block _ (by simp) (by have := heap_lt HR2.out.top; omega) (by have := heap_lt HR2.out.rd.cells; omega) (by simp)).trans (heap_alloc_new w2 _)
  have y2 := cell_al (o := (.cells #[.int .u64 14, .int .i64 4, .int .i64 (-2047), .int .i64 2048, .int .i64 12] 223)) HR3.out.cell.2.1
  go_wp2_with fail
  rw [rounds_succ]
  go_wp2_with fail
  refine (gbits_some (HR3.out.below (al_b w3 (.cells #[.int .u64 14, .int .i64 4, .int .i64 (-2047), .int .i64 2048, .int .i64 12] 223))) 1 (by decide) q4).mono ?_
  rintro e w4 ⟨rfl, hr4, hg4⟩
  have HR4 := Lib.hid hr4
  have HG4 := Lib.hid ((HG3.out.trans (Ga.ofBelow (al_b w3 (.cells #[.int .u64 14, .int .i64 4, .int .i64 (-2047), .int .i64 2048, .int .i64 12] 223))) (Anew.refl _ _)).trans hg4 (Anew.refl _ _))
  have hbk4 : w4.heap[w3.heap.size]? = some (.cells #[.int .u64 14, .int .i64 4, .int .i64 (-2047), .int .i64 2048, .int .i64 12] 223 (0, 0)) := (hg4.block _ (by simp) (by have := heap_lt HR3.out.top; omega) (by have := heap_lt HR3.out.rd.cells; omega) (by simp)).trans (heap_alloc_new w3 _)
  obtain ⟨-, -, m2, m4⟩ := bucket_cells hbk4
  go_wp2_with fail
  go_region_held3 (fun w' => w'.cell? ⟨w3.heap.size, 4, none⟩ = some (.int .i64 12) ∧ w'.cell? ⟨w3.heap.size, 2, none⟩ = some (.int .i64 (-2047))) (first | assumption | exact ⟨by assumption, by assumption⟩ | exact ⟨m4, m2⟩) (first | (go_at_call 95; refine (gbits_some (HR4.out.below (drew_b _)) 12 (by decide) qy).mono ?_; rintro e w8 ⟨rfl, hr8, hg8⟩; have hbk8 := (hg8.block w3.heap.size (heap_lt hbk4) (by have := heap_lt HR3.out.top; omega) (by have := heap_lt HR3.out.rd.cells; omega) (by simp)).trans hbk4; obtain ⟨-, -, n2, n4⟩ := bucket_cells hbk8; have HR8 := Lib.hid hr8; have HG8 := Lib.hid ((HG4.out.trans (Ga.ofBelow (drew_b _)) (Anew.refl _ _)).trans hg8 (Anew.refl _ _)); clear hr8 hg8))
  go_wp2
  rw [Exit.noGoto_ret]
  go_ret
  exact .inl ⟨(y + 18446744073709549569) % 18446744073709551616, c, by
      unfold Gz.chgD
      rw [q1]
      simp only [Option.bind_some]
      rw [if_neg z1]
      rw [q2]
      simp only [Option.bind_some]
      rw [if_neg z2]
      rw [q3]
      simp only [Option.bind_some]
      rw [if_neg z3]
      rw [q4]
      simp only [Option.bind_some, if_true]
      rw [qy]
      rfl, Nat.mod_lt _ (by decide), rfl, HR8.out, HG8.out⟩
set_option maxHeartbeats 2000000 in
set_option maxRecDepth 100000 in
theorem chg_b2n {w0 : World} {Q B at_ lo hi step : Nat} {v : Value} {l : List UInt8} {is : Bool} {wl wr : Int} (h : Rg w0 Q B v at_ l lo hi false step wl wr is) {a1 x1 : Nat} (q1 : Gz.rdk (Bt.unpack l) at_ 1 = some (x1, a1)) (z1 : x1 ≠ 0) {a2 x2 : Nat} (q2 : Gz.rdk (Bt.unpack l) a1 1 = some (x2, a2)) (z2 : x2 ≠ 0) {a3 x3 : Nat} (q3 : Gz.rdk (Bt.unpack l) a2 1 = some (x3, a3)) (z3 : x3 ≠ 0) {a4 : Nat} (q4 : Gz.rdk (Bt.unpack l) a3 1 = some (0, a4)) (qy : Gz.rdk (Bt.unpack l) a4 12 = none) :
    Calls Tryz.prog 97 #[.pointer (some ⟨Q, 0, none⟩)] w0 fun e w' => ChgPost w0 Q B at_ lo hi step v l wl wr is e w' := by
  have g3 : ((x3 : Int) == 0) = false := by simp; omega
  have g2 : ((x2 : Int) == 0) = false := by simp; omega
  have g1 : ((x1 : Int) == 0) = false := by simp; omega
  have H0 := Lib.hid h
  have HR0 := Lib.hid h
  have HG0 := Lib.hid (Ga.refl Q B none w0)
  clear h H0
  have hx0 := fun W => (bk_at W).1
  have hx1 := fun W => (bk_at W).2.1
  have hx2 := fun W => (bk_at W).2.2
  unfold bkA at hx0 hx1 hx2
  go_enter Tryz.func97, Tryz.ntmps97
  go_wp2_with fail
  go_step3
  go_wp2_with fail
  refine (gbits_some HR0.out 1 (by decide) q1).mono ?_
  rintro e w1 ⟨rfl, hr1, hg1⟩
  have HR1 := Lib.hid hr1
  have HG1 := Lib.hid (HG0.out.trans hg1 (Anew.refl _ _))
  go_wp2_with fail
  go_step3
  go_wp2_with fail
  refine (buckets_any _).mono ?_
  rintro e wb ⟨rfl, hb1⟩
  have HRb := Lib.hid (HR1.out.below hb1)
  have HGb := Lib.hid (HG1.out.trans (Ga.ofBelow hb1) (Anew.refl _ _))
  clear HR1 HG1 hr1 hg1 hb1
  have HR1 := HRb
  have HG1 := HGb
  clear HRb HGb
  have y0 := cell_al (o := (.cells #[.int .u64 2, .int .i64 2, .int .i64 (-63), .int .i64 64, .int .i64 7] 223)) HR1.out.cell.2.1
  go_wp2_with fail
  refine wp_loop_rounds 4 ?_
  rw [rounds_succ]
  go_wp2_with fail
  refine (gbits_some (HR1.out.below (al_b wb (.cells #[.int .u64 2, .int .i64 2, .int .i64 (-63), .int .i64 64, .int .i64 7] 223))) 1 (by decide) q2).mono ?_
  rintro e w2 ⟨rfl, hr2, hg2⟩
  have HR2 := Lib.hid hr2
  have HG2 := Lib.hid ((HG1.out.trans (Ga.ofBelow (al_b wb (.cells #[.int .u64 2, .int .i64 2, .int .i64 (-63), .int .i64 64, .int .i64 7] 223))) (Anew.refl _ _)).trans hg2 (Anew.refl _ _))
  have hbk2 : w2.heap[wb.heap.size]? = some (.cells #[.int .u64 2, .int .i64 2, .int .i64 (-63), .int .i64 64, .int .i64 7] 223 (0, 0)) := (hg2.block _ (by simp) (by have := heap_lt HR1.out.top; omega) (by have := heap_lt HR1.out.rd.cells; omega) (by simp)).trans (heap_alloc_new wb _)
  have y1 := cell_al (o := (.cells #[.int .u64 6, .int .i64 3, .int .i64 (-255), .int .i64 256, .int .i64 9] 223)) HR2.out.cell.2.1
  go_wp2_with fail
  rw [rounds_succ]
  go_wp2_with fail
  refine (gbits_some (HR2.out.below (al_b w2 (.cells #[.int .u64 6, .int .i64 3, .int .i64 (-255), .int .i64 256, .int .i64 9] 223))) 1 (by decide) q3).mono ?_
  rintro e w3 ⟨rfl, hr3, hg3⟩
  have HR3 := Lib.hid hr3
  have HG3 := Lib.hid ((HG2.out.trans (Ga.ofBelow (al_b w2 (.cells #[.int .u64 6, .int .i64 3, .int .i64 (-255), .int .i64 256, .int .i64 9] 223))) (Anew.refl _ _)).trans hg3 (Anew.refl _ _))
  have hbk3 : w3.heap[w2.heap.size]? = some (.cells #[.int .u64 6, .int .i64 3, .int .i64 (-255), .int .i64 256, .int .i64 9] 223 (0, 0)) := (hg3.block _ (by simp) (by have := heap_lt HR2.out.top; omega) (by have := heap_lt HR2.out.rd.cells; omega) (by simp)).trans (heap_alloc_new w2 _)
  have y2 := cell_al (o := (.cells #[.int .u64 14, .int .i64 4, .int .i64 (-2047), .int .i64 2048, .int .i64 12] 223)) HR3.out.cell.2.1
  go_wp2_with fail
  rw [rounds_succ]
  go_wp2_with fail
  refine (gbits_some (HR3.out.below (al_b w3 (.cells #[.int .u64 14, .int .i64 4, .int .i64 (-2047), .int .i64 2048, .int .i64 12] 223))) 1 (by decide) q4).mono ?_
  rintro e w4 ⟨rfl, hr4, hg4⟩
  have HR4 := Lib.hid hr4
  have HG4 := Lib.hid ((HG3.out.trans (Ga.ofBelow (al_b w3 (.cells #[.int .u64 14, .int .i64 4, .int .i64 (-2047), .int .i64 2048, .int .i64 12] 223))) (Anew.refl _ _)).trans hg4 (Anew.refl _ _))
  have hbk4 : w4.heap[w3.heap.size]? = some (.cells #[.int .u64 14, .int .i64 4, .int .i64 (-2047), .int .i64 2048, .int .i64 12] 223 (0, 0)) := (hg4.block _ (by simp) (by have := heap_lt HR3.out.top; omega) (by have := heap_lt HR3.out.rd.cells; omega) (by simp)).trans (heap_alloc_new w3 _)
  obtain ⟨-, -, m2, m4⟩ := bucket_cells hbk4
  go_wp2_with fail
  go_region_held3 (fun w' => w'.cell? ⟨w3.heap.size, 4, none⟩ = some (.int .i64 12) ∧ w'.cell? ⟨w3.heap.size, 2, none⟩ = some (.int .i64 (-2047))) (first | assumption | exact ⟨by assumption, by assumption⟩ | exact ⟨m4, m2⟩) (first | (go_at_call 95; refine (gbits_none (HR4.out.below (drew_b _)) 12 (by decide) qy).mono ?_; rintro e w8 ⟨rfl, hr8, hg8⟩; have hbk8 := (hg8.block w3.heap.size (heap_lt hbk4) (by have := heap_lt HR3.out.top; omega) (by have := heap_lt HR3.out.rd.cells; omega) (by simp)).trans hbk4; obtain ⟨-, -, n2, n4⟩ := bucket_cells hbk8; have HR8 := Lib.hid hr8; have HG8 := Lib.hid ((HG4.out.trans (Ga.ofBelow (drew_b _)) (Anew.refl _ _)).trans hg8 (Anew.refl _ _)); clear hr8 hg8))
  go_wp2
  rw [Exit.noGoto_ret]
  go_ret
  exact .inr ⟨by
      unfold Gz.chgD
      rw [q1]
      simp only [Option.bind_some]
      rw [if_neg z1]
      rw [q2]
      simp only [Option.bind_some]
      rw [if_neg z2]
      rw [q3]
      simp only [Option.bind_some]
      rw [if_neg z3]
      rw [q4]
      simp only [Option.bind_some, if_true]
      rw [qy]
      rfl, 18446744073709549569, a4, by decide, rfl, HR8.out, HG8.out⟩
set_option maxHeartbeats 2000000 in
set_option maxRecDepth 100000 in
theorem chg_f2 {w0 : World} {Q B at_ lo hi step : Nat} {v : Value} {l : List UInt8} {is : Bool} {wl wr : Int} (h : Rg w0 Q B v at_ l lo hi false step wl wr is) {a1 x1 : Nat} (q1 : Gz.rdk (Bt.unpack l) at_ 1 = some (x1, a1)) (z1 : x1 ≠ 0) {a2 x2 : Nat} (q2 : Gz.rdk (Bt.unpack l) a1 1 = some (x2, a2)) (z2 : x2 ≠ 0) {a3 x3 : Nat} (q3 : Gz.rdk (Bt.unpack l) a2 1 = some (x3, a3)) (z3 : x3 ≠ 0) (q4 : Gz.rdk (Bt.unpack l) a3 1 = none) :
    Calls Tryz.prog 97 #[.pointer (some ⟨Q, 0, none⟩)] w0 fun e w' => ChgPost w0 Q B at_ lo hi step v l wl wr is e w' := by
  have g3 : ((x3 : Int) == 0) = false := by simp; omega
  have g2 : ((x2 : Int) == 0) = false := by simp; omega
  have g1 : ((x1 : Int) == 0) = false := by simp; omega
  have H0 := Lib.hid h
  have HR0 := Lib.hid h
  have HG0 := Lib.hid (Ga.refl Q B none w0)
  clear h H0
  have hx0 := fun W => (bk_at W).1
  have hx1 := fun W => (bk_at W).2.1
  have hx2 := fun W => (bk_at W).2.2
  unfold bkA at hx0 hx1 hx2
  go_enter Tryz.func97, Tryz.ntmps97
  go_wp2_with fail
  go_step3
  go_wp2_with fail
  refine (gbits_some HR0.out 1 (by decide) q1).mono ?_
  rintro e w1 ⟨rfl, hr1, hg1⟩
  have HR1 := Lib.hid hr1
  have HG1 := Lib.hid (HG0.out.trans hg1 (Anew.refl _ _))
  go_wp2_with fail
  go_step3
  go_wp2_with fail
  refine (buckets_any _).mono ?_
  rintro e wb ⟨rfl, hb1⟩
  have HRb := Lib.hid (HR1.out.below hb1)
  have HGb := Lib.hid (HG1.out.trans (Ga.ofBelow hb1) (Anew.refl _ _))
  clear HR1 HG1 hr1 hg1 hb1
  have HR1 := HRb
  have HG1 := HGb
  clear HRb HGb
  have y0 := cell_al (o := (.cells #[.int .u64 2, .int .i64 2, .int .i64 (-63), .int .i64 64, .int .i64 7] 223)) HR1.out.cell.2.1
  go_wp2_with fail
  refine wp_loop_rounds 4 ?_
  rw [rounds_succ]
  go_wp2_with fail
  refine (gbits_some (HR1.out.below (al_b wb (.cells #[.int .u64 2, .int .i64 2, .int .i64 (-63), .int .i64 64, .int .i64 7] 223))) 1 (by decide) q2).mono ?_
  rintro e w2 ⟨rfl, hr2, hg2⟩
  have HR2 := Lib.hid hr2
  have HG2 := Lib.hid ((HG1.out.trans (Ga.ofBelow (al_b wb (.cells #[.int .u64 2, .int .i64 2, .int .i64 (-63), .int .i64 64, .int .i64 7] 223))) (Anew.refl _ _)).trans hg2 (Anew.refl _ _))
  have hbk2 : w2.heap[wb.heap.size]? = some (.cells #[.int .u64 2, .int .i64 2, .int .i64 (-63), .int .i64 64, .int .i64 7] 223 (0, 0)) := (hg2.block _ (by simp) (by have := heap_lt HR1.out.top; omega) (by have := heap_lt HR1.out.rd.cells; omega) (by simp)).trans (heap_alloc_new wb _)
  have y1 := cell_al (o := (.cells #[.int .u64 6, .int .i64 3, .int .i64 (-255), .int .i64 256, .int .i64 9] 223)) HR2.out.cell.2.1
  go_wp2_with fail
  rw [rounds_succ]
  go_wp2_with fail
  refine (gbits_some (HR2.out.below (al_b w2 (.cells #[.int .u64 6, .int .i64 3, .int .i64 (-255), .int .i64 256, .int .i64 9] 223))) 1 (by decide) q3).mono ?_
  rintro e w3 ⟨rfl, hr3, hg3⟩
  have HR3 := Lib.hid hr3
  have HG3 := Lib.hid ((HG2.out.trans (Ga.ofBelow (al_b w2 (.cells #[.int .u64 6, .int .i64 3, .int .i64 (-255), .int .i64 256, .int .i64 9] 223))) (Anew.refl _ _)).trans hg3 (Anew.refl _ _))
  have hbk3 : w3.heap[w2.heap.size]? = some (.cells #[.int .u64 6, .int .i64 3, .int .i64 (-255), .int .i64 256, .int .i64 9] 223 (0, 0)) := (hg3.block _ (by simp) (by have := heap_lt HR2.out.top; omega) (by have := heap_lt HR2.out.rd.cells; omega) (by simp)).trans (heap_alloc_new w2 _)
  have y2 := cell_al (o := (.cells #[.int .u64 14, .int .i64 4, .int .i64 (-2047), .int .i64 2048, .int .i64 12] 223)) HR3.out.cell.2.1
  go_wp2_with fail
  rw [rounds_succ]
  go_wp2_with fail
  refine (gbits_none (HR3.out.below (al_b w3 (.cells #[.int .u64 14, .int .i64 4, .int .i64 (-2047), .int .i64 2048, .int .i64 12] 223))) 1 (by decide) q4).mono ?_
  rintro e w4 ⟨rfl, hr4, hg4⟩
  have HR4 := Lib.hid hr4
  have HG4 := Lib.hid ((HG3.out.trans (Ga.ofBelow (al_b w3 (.cells #[.int .u64 14, .int .i64 4, .int .i64 (-2047), .int .i64 2048, .int .i64 12] 223))) (Anew.refl _ _)).trans hg4 (Anew.refl _ _))
  have hbk4 : w4.heap[w3.heap.size]? = some (.cells #[.int .u64 14, .int .i64 4, .int .i64 (-2047), .int .i64 2048, .int .i64 12] 223 (0, 0)) := (hg4.block _ (by simp) (by have := heap_lt HR3.out.top; omega) (by have := heap_lt HR3.out.rd.cells; omega) (by simp)).trans (heap_alloc_new w3 _)
  obtain ⟨-, -, m2, m4⟩ := bucket_cells hbk4
  go_wp2_with fail
  go_region_held3 (fun w' => w'.cell? ⟨w3.heap.size, 4, none⟩ = some (.int .i64 12) ∧ w'.cell? ⟨w3.heap.size, 2, none⟩ = some (.int .i64 (-2047))) (first | assumption | exact ⟨by assumption, by assumption⟩ | exact ⟨m4, m2⟩) (first | (go_at_call 95; refine (gbits_bad (HR4.out.below (drew_b _)) 12).mono ?_; rintro e w8 ⟨xb, ab, hxl, rfl, hr8, hg8⟩; have hbk8 := (hg8.block w3.heap.size (heap_lt hbk4) (by have := heap_lt HR3.out.top; omega) (by have := heap_lt HR3.out.rd.cells; omega) (by simp)).trans hbk4; obtain ⟨-, -, n2, n4⟩ := bucket_cells hbk8; have HR8 := Lib.hid hr8; have HG8 := Lib.hid ((HG4.out.trans (Ga.ofBelow (drew_b _)) (Anew.refl _ _)).trans hg8 (Anew.refl _ _)); clear hr8 hg8))
  go_wp2
  rw [Exit.noGoto_ret]
  go_ret
  exact .inr ⟨by
      unfold Gz.chgD
      rw [q1]
      simp only [Option.bind_some]
      rw [if_neg z1]
      rw [q2]
      simp only [Option.bind_some]
      rw [if_neg z2]
      rw [q3]
      simp only [Option.bind_some]
      rw [if_neg z3]
      rw [q4]
      rfl, (xb + 18446744073709549569) % 18446744073709551616, ab, Nat.mod_lt _ (by decide), congrArg (fun z => Ending.returned (Value.int .u64 z)) (by simp only [IntKind.wrap_u64]; omega), HR8.out, HG8.out⟩
set_option maxHeartbeats 2000000 in
set_option maxRecDepth 100000 in
theorem chg_ls {w0 : World} {Q B at_ lo hi step : Nat} {v : Value} {l : List UInt8} {is : Bool} {wl wr : Int} (h : Rg w0 Q B v at_ l lo hi false step wl wr is) {a1 x1 : Nat} (q1 : Gz.rdk (Bt.unpack l) at_ 1 = some (x1, a1)) (z1 : x1 ≠ 0) {a2 x2 : Nat} (q2 : Gz.rdk (Bt.unpack l) a1 1 = some (x2, a2)) (z2 : x2 ≠ 0) {a3 x3 : Nat} (q3 : Gz.rdk (Bt.unpack l) a2 1 = some (x3, a3)) (z3 : x3 ≠ 0) {a4 x4 : Nat} (q4 : Gz.rdk (Bt.unpack l) a3 1 = some (x4, a4)) (z4 : x4 ≠ 0) {y c : Nat} (qy : Gz.rdk (Bt.unpack l) a4 64 = some (y, c)) :
    Calls Tryz.prog 97 #[.pointer (some ⟨Q, 0, none⟩)] w0 fun e w' => ChgPost w0 Q B at_ lo hi step v l wl wr is e w' := by
  have g4 : ((x4 : Int) == 0) = false := by simp; omega
  have g3 : ((x3 : Int) == 0) = false := by simp; omega
  have g2 : ((x2 : Int) == 0) = false := by simp; omega
  have g1 : ((x1 : Int) == 0) = false := by simp; omega
  have H0 := Lib.hid h
  have HR0 := Lib.hid h
  have HG0 := Lib.hid (Ga.refl Q B none w0)
  clear h H0
  have hx0 := fun W => (bk_at W).1
  have hx1 := fun W => (bk_at W).2.1
  have hx2 := fun W => (bk_at W).2.2
  unfold bkA at hx0 hx1 hx2
  go_enter Tryz.func97, Tryz.ntmps97
  go_wp2_with fail
  go_step3
  go_wp2_with fail
  refine (gbits_some HR0.out 1 (by decide) q1).mono ?_
  rintro e w1 ⟨rfl, hr1, hg1⟩
  have HR1 := Lib.hid hr1
  have HG1 := Lib.hid (HG0.out.trans hg1 (Anew.refl _ _))
  go_wp2_with fail
  go_step3
  go_wp2_with fail
  refine (buckets_any _).mono ?_
  rintro e wb ⟨rfl, hb1⟩
  have HRb := Lib.hid (HR1.out.below hb1)
  have HGb := Lib.hid (HG1.out.trans (Ga.ofBelow hb1) (Anew.refl _ _))
  clear HR1 HG1 hr1 hg1 hb1
  have HR1 := HRb
  have HG1 := HGb
  clear HRb HGb
  have y0 := cell_al (o := (.cells #[.int .u64 2, .int .i64 2, .int .i64 (-63), .int .i64 64, .int .i64 7] 223)) HR1.out.cell.2.1
  go_wp2_with fail
  refine wp_loop_rounds 4 ?_
  rw [rounds_succ]
  go_wp2_with fail
  refine (gbits_some (HR1.out.below (al_b wb (.cells #[.int .u64 2, .int .i64 2, .int .i64 (-63), .int .i64 64, .int .i64 7] 223))) 1 (by decide) q2).mono ?_
  rintro e w2 ⟨rfl, hr2, hg2⟩
  have HR2 := Lib.hid hr2
  have HG2 := Lib.hid ((HG1.out.trans (Ga.ofBelow (al_b wb (.cells #[.int .u64 2, .int .i64 2, .int .i64 (-63), .int .i64 64, .int .i64 7] 223))) (Anew.refl _ _)).trans hg2 (Anew.refl _ _))
  have hbk2 : w2.heap[wb.heap.size]? = some (.cells #[.int .u64 2, .int .i64 2, .int .i64 (-63), .int .i64 64, .int .i64 7] 223 (0, 0)) := (hg2.block _ (by simp) (by have := heap_lt HR1.out.top; omega) (by have := heap_lt HR1.out.rd.cells; omega) (by simp)).trans (heap_alloc_new wb _)
  have y1 := cell_al (o := (.cells #[.int .u64 6, .int .i64 3, .int .i64 (-255), .int .i64 256, .int .i64 9] 223)) HR2.out.cell.2.1
  go_wp2_with fail
  rw [rounds_succ]
  go_wp2_with fail
  refine (gbits_some (HR2.out.below (al_b w2 (.cells #[.int .u64 6, .int .i64 3, .int .i64 (-255), .int .i64 256, .int .i64 9] 223))) 1 (by decide) q3).mono ?_
  rintro e w3 ⟨rfl, hr3, hg3⟩
  have HR3 := Lib.hid hr3
  have HG3 := Lib.hid ((HG2.out.trans (Ga.ofBelow (al_b w2 (.cells #[.int .u64 6, .int .i64 3, .int .i64 (-255), .int .i64 256, .int .i64 9] 223))) (Anew.refl _ _)).trans hg3 (Anew.refl _ _))
  have hbk3 : w3.heap[w2.heap.size]? = some (.cells #[.int .u64 6, .int .i64 3, .int .i64 (-255), .int .i64 256, .int .i64 9] 223 (0, 0)) := (hg3.block _ (by simp) (by have := heap_lt HR2.out.top; omega) (by have := heap_lt HR2.out.rd.cells; omega) (by simp)).trans (heap_alloc_new w2 _)
  have y2 := cell_al (o := (.cells #[.int .u64 14, .int .i64 4, .int .i64 (-2047), .int .i64 2048, .int .i64 12] 223)) HR3.out.cell.2.1
  go_wp2_with fail
  rw [rounds_succ]
  go_wp2_with fail
  refine (gbits_some (HR3.out.below (al_b w3 (.cells #[.int .u64 14, .int .i64 4, .int .i64 (-2047), .int .i64 2048, .int .i64 12] 223))) 1 (by decide) q4).mono ?_
  rintro e w4 ⟨rfl, hr4, hg4⟩
  have HR4 := Lib.hid hr4
  have HG4 := Lib.hid ((HG3.out.trans (Ga.ofBelow (al_b w3 (.cells #[.int .u64 14, .int .i64 4, .int .i64 (-2047), .int .i64 2048, .int .i64 12] 223))) (Anew.refl _ _)).trans hg4 (Anew.refl _ _))
  have hbk4 : w4.heap[w3.heap.size]? = some (.cells #[.int .u64 14, .int .i64 4, .int .i64 (-2047), .int .i64 2048, .int .i64 12] 223 (0, 0)) := (hg4.block _ (by simp) (by have := heap_lt HR3.out.top; omega) (by have := heap_lt HR3.out.rd.cells; omega) (by simp)).trans (heap_alloc_new w3 _)
  go_wp2_with fail
  rw [rounds_succ]
  go_wp2_with fail
  refine (gbits_some HR4.out 64 (by decide) qy).mono ?_
  rintro e w8 ⟨rfl, hr8, hg8⟩
  have HR8 := Lib.hid hr8
  have HG8 := Lib.hid (HG4.out.trans hg8 (Anew.refl _ _))
  go_wp2_with fail
  rw [Exit.noGoto_ret]
  go_ret
  exact .inl ⟨y, c, by
      unfold Gz.chgD
      rw [q1]
      simp only [Option.bind_some]
      rw [if_neg z1]
      rw [q2]
      simp only [Option.bind_some]
      rw [if_neg z2]
      rw [q3]
      simp only [Option.bind_some]
      rw [if_neg z3]
      rw [q4]
      simp only [Option.bind_some]
      rw [if_neg z4]
      exact qy, rdk_lt (by decide) qy, rfl, HR8.out, HG8.out⟩
set_option maxHeartbeats 2000000 in
set_option maxRecDepth 100000 in
theorem chg_ln {w0 : World} {Q B at_ lo hi step : Nat} {v : Value} {l : List UInt8} {is : Bool} {wl wr : Int} (h : Rg w0 Q B v at_ l lo hi false step wl wr is) {a1 x1 : Nat} (q1 : Gz.rdk (Bt.unpack l) at_ 1 = some (x1, a1)) (z1 : x1 ≠ 0) {a2 x2 : Nat} (q2 : Gz.rdk (Bt.unpack l) a1 1 = some (x2, a2)) (z2 : x2 ≠ 0) {a3 x3 : Nat} (q3 : Gz.rdk (Bt.unpack l) a2 1 = some (x3, a3)) (z3 : x3 ≠ 0) {a4 x4 : Nat} (q4 : Gz.rdk (Bt.unpack l) a3 1 = some (x4, a4)) (z4 : x4 ≠ 0) (qy : Gz.rdk (Bt.unpack l) a4 64 = none) :
    Calls Tryz.prog 97 #[.pointer (some ⟨Q, 0, none⟩)] w0 fun e w' => ChgPost w0 Q B at_ lo hi step v l wl wr is e w' := by
  have g4 : ((x4 : Int) == 0) = false := by simp; omega
  have g3 : ((x3 : Int) == 0) = false := by simp; omega
  have g2 : ((x2 : Int) == 0) = false := by simp; omega
  have g1 : ((x1 : Int) == 0) = false := by simp; omega
  have H0 := Lib.hid h
  have HR0 := Lib.hid h
  have HG0 := Lib.hid (Ga.refl Q B none w0)
  clear h H0
  have hx0 := fun W => (bk_at W).1
  have hx1 := fun W => (bk_at W).2.1
  have hx2 := fun W => (bk_at W).2.2
  unfold bkA at hx0 hx1 hx2
  go_enter Tryz.func97, Tryz.ntmps97
  go_wp2_with fail
  go_step3
  go_wp2_with fail
  refine (gbits_some HR0.out 1 (by decide) q1).mono ?_
  rintro e w1 ⟨rfl, hr1, hg1⟩
  have HR1 := Lib.hid hr1
  have HG1 := Lib.hid (HG0.out.trans hg1 (Anew.refl _ _))
  go_wp2_with fail
  go_step3
  go_wp2_with fail
  refine (buckets_any _).mono ?_
  rintro e wb ⟨rfl, hb1⟩
  have HRb := Lib.hid (HR1.out.below hb1)
  have HGb := Lib.hid (HG1.out.trans (Ga.ofBelow hb1) (Anew.refl _ _))
  clear HR1 HG1 hr1 hg1 hb1
  have HR1 := HRb
  have HG1 := HGb
  clear HRb HGb
  have y0 := cell_al (o := (.cells #[.int .u64 2, .int .i64 2, .int .i64 (-63), .int .i64 64, .int .i64 7] 223)) HR1.out.cell.2.1
  go_wp2_with fail
  refine wp_loop_rounds 4 ?_
  rw [rounds_succ]
  go_wp2_with fail
  refine (gbits_some (HR1.out.below (al_b wb (.cells #[.int .u64 2, .int .i64 2, .int .i64 (-63), .int .i64 64, .int .i64 7] 223))) 1 (by decide) q2).mono ?_
  rintro e w2 ⟨rfl, hr2, hg2⟩
  have HR2 := Lib.hid hr2
  have HG2 := Lib.hid ((HG1.out.trans (Ga.ofBelow (al_b wb (.cells #[.int .u64 2, .int .i64 2, .int .i64 (-63), .int .i64 64, .int .i64 7] 223))) (Anew.refl _ _)).trans hg2 (Anew.refl _ _))
  have hbk2 : w2.heap[wb.heap.size]? = some (.cells #[.int .u64 2, .int .i64 2, .int .i64 (-63), .int .i64 64, .int .i64 7] 223 (0, 0)) := (hg2.block _ (by simp) (by have := heap_lt HR1.out.top; omega) (by have := heap_lt HR1.out.rd.cells; omega) (by simp)).trans (heap_alloc_new wb _)
  have y1 := cell_al (o := (.cells #[.int .u64 6, .int .i64 3, .int .i64 (-255), .int .i64 256, .int .i64 9] 223)) HR2.out.cell.2.1
  go_wp2_with fail
  rw [rounds_succ]
  go_wp2_with fail
  refine (gbits_some (HR2.out.below (al_b w2 (.cells #[.int .u64 6, .int .i64 3, .int .i64 (-255), .int .i64 256, .int .i64 9] 223))) 1 (by decide) q3).mono ?_
  rintro e w3 ⟨rfl, hr3, hg3⟩
  have HR3 := Lib.hid hr3
  have HG3 := Lib.hid ((HG2.out.trans (Ga.ofBelow (al_b w2 (.cells #[.int .u64 6, .int .i64 3, .int .i64 (-255), .int .i64 256, .int .i64 9] 223))) (Anew.refl _ _)).trans hg3 (Anew.refl _ _))
  have hbk3 : w3.heap[w2.heap.size]? = some (.cells #[.int .u64 6, .int .i64 3, .int .i64 (-255), .int .i64 256, .int .i64 9] 223 (0, 0)) := (hg3.block _ (by simp) (by have := heap_lt HR2.out.top; omega) (by have := heap_lt HR2.out.rd.cells; omega) (by simp)).trans (heap_alloc_new w2 _)
  have y2 := cell_al (o := (.cells #[.int .u64 14, .int .i64 4, .int .i64 (-2047), .int .i64 2048, .int .i64 12] 223)) HR3.out.cell.2.1
  go_wp2_with fail
  rw [rounds_succ]
  go_wp2_with fail
  refine (gbits_some (HR3.out.below (al_b w3 (.cells #[.int .u64 14, .int .i64 4, .int .i64 (-2047), .int .i64 2048, .int .i64 12] 223))) 1 (by decide) q4).mono ?_
  rintro e w4 ⟨rfl, hr4, hg4⟩
  have HR4 := Lib.hid hr4
  have HG4 := Lib.hid ((HG3.out.trans (Ga.ofBelow (al_b w3 (.cells #[.int .u64 14, .int .i64 4, .int .i64 (-2047), .int .i64 2048, .int .i64 12] 223))) (Anew.refl _ _)).trans hg4 (Anew.refl _ _))
  have hbk4 : w4.heap[w3.heap.size]? = some (.cells #[.int .u64 14, .int .i64 4, .int .i64 (-2047), .int .i64 2048, .int .i64 12] 223 (0, 0)) := (hg4.block _ (by simp) (by have := heap_lt HR3.out.top; omega) (by have := heap_lt HR3.out.rd.cells; omega) (by simp)).trans (heap_alloc_new w3 _)
  go_wp2_with fail
  rw [rounds_succ]
  go_wp2_with fail
  refine (gbits_none HR4.out 64 (by decide) qy).mono ?_
  rintro e w8 ⟨rfl, hr8, hg8⟩
  have HR8 := Lib.hid hr8
  have HG8 := Lib.hid (HG4.out.trans hg8 (Anew.refl _ _))
  go_wp2_with fail
  rw [Exit.noGoto_ret]
  go_ret
  exact .inr ⟨by
      unfold Gz.chgD
      rw [q1]
      simp only [Option.bind_some]
      rw [if_neg z1]
      rw [q2]
      simp only [Option.bind_some]
      rw [if_neg z2]
      rw [q3]
      simp only [Option.bind_some]
      rw [if_neg z3]
      rw [q4]
      simp only [Option.bind_some]
      rw [if_neg z4]
      exact qy, 0, a4, by decide, rfl, HR8.out, HG8.out⟩
set_option maxHeartbeats 2000000 in
set_option maxRecDepth 100000 in
/-- Of a bad one. -/
theorem change_bad {w0 : World} {Q B at_ lo hi step : Nat} {v : Value} {l : List UInt8} {is : Bool} {wl wr : Int} (h : Rg w0 Q B v at_ l lo hi true step wl wr is) :
    Calls Tryz.prog 97 #[.pointer (some ⟨Q, 0, none⟩)] w0 fun e w' => ∃ x a, x < 18446744073709551616 ∧ e = .returned (.int .u64 ((x : Nat) : Int)) ∧ Rg w' Q B v a l lo hi true step wl wr is ∧ Ga Q B none w0 w' := by
  have H0 := Lib.hid h
  have HR0 := Lib.hid h
  have HG0 := Lib.hid (Ga.refl Q B none w0)
  clear h H0
  have hx0 := fun W => (bk_at W).1
  have hx1 := fun W => (bk_at W).2.1
  have hx2 := fun W => (bk_at W).2.2
  unfold bkA at hx0 hx1 hx2
  go_enter Tryz.func97, Tryz.ntmps97
  go_wp2_with fail
  go_step3
  go_wp2_with fail
  refine (gbits_bad HR0.out 1).mono ?_
  rintro e w1 ⟨x1, a1, hx1l, rfl, hr1, hg1⟩
  have HR1 := Lib.hid hr1
  have HG1 := Lib.hid (HG0.out.trans hg1 (Anew.refl _ _))
  by_cases z1 : x1 = 0
  · subst z1
    go_wp2_with fail
    rw [Exit.noGoto_ret]
    go_ret
    exact ⟨0, a1, by decide, rfl, HR1.out, HG1.out⟩
  · have g1 : ((x1 : Int) == 0) = false := by simp; omega
    go_wp2_with fail
    go_step3
    go_wp2_with fail
    refine (buckets_any _).mono ?_
    rintro e wb ⟨rfl, hb1⟩
    have HR2 := Lib.hid (HR1.out.below hb1)
    have HG2 := Lib.hid (HG1.out.trans (Ga.ofBelow hb1) (Anew.refl _ _))
    have y0 := cell_al (o := (.cells #[.int .u64 2, .int .i64 2, .int .i64 (-63), .int .i64 64, .int .i64 7] 223)) HR2.out.cell.2.1
    go_wp2_with fail
    refine wp_loop_rounds 4 ?_
    rw [rounds_succ]
    go_wp2_with fail
    refine (gbits_bad (HR2.out.below (al_b wb (.cells #[.int .u64 2, .int .i64 2, .int .i64 (-63), .int .i64 64, .int .i64 7] 223))) 64).mono ?_
    rintro e w3 ⟨x3, a3, hx3l, rfl, hr3, hg3⟩
    go_wp2_with fail
    rw [Exit.noGoto_ret]
    go_ret
    exact ⟨x3, a3, hx3l, rfl, hr3, (HG2.out.trans (Ga.ofBelow (al_b wb _)) (Anew.refl _ _)).trans hg3 (Anew.refl _ _)⟩
/-- Of one that is not bad. -/
theorem change_any {w0 : World} {Q B at_ lo hi step : Nat} {v : Value} {l : List UInt8} {is : Bool} {wl wr : Int} (h : Rg w0 Q B v at_ l lo hi false step wl wr is) :
    Calls Tryz.prog 97 #[.pointer (some ⟨Q, 0, none⟩)] w0 fun e w' => ChgPost w0 Q B at_ lo hi step v l wl wr is e w' := by
  rcases q1 : Gz.rdk (Bt.unpack l) at_ 1 with _ | ⟨x1, a1⟩
  · exact chg_n1 h q1
  by_cases z1 : x1 = 0
  · subst z1
    exact chg_z1 h q1
  rcases q2 : Gz.rdk (Bt.unpack l) a1 1 with _ | ⟨x2, a2⟩
  · exact chg_f0 h q1 z1 q2
  by_cases z2 : x2 = 0
  · subst z2
    rcases qy : Gz.rdk (Bt.unpack l) a2 7 with _ | ⟨y, c⟩
    · exact chg_b0n h q1 z1 q2 qy
    · exact chg_b0s h q1 z1 q2 qy
  rcases q3 : Gz.rdk (Bt.unpack l) a2 1 with _ | ⟨x3, a3⟩
  · exact chg_f1 h q1 z1 q2 z2 q3
  by_cases z3 : x3 = 0
  · subst z3
    rcases qy : Gz.rdk (Bt.unpack l) a3 9 with _ | ⟨y, c⟩
    · exact chg_b1n h q1 z1 q2 z2 q3 qy
    · exact chg_b1s h q1 z1 q2 z2 q3 qy
  rcases q4 : Gz.rdk (Bt.unpack l) a3 1 with _ | ⟨x4, a4⟩
  · exact chg_f2 h q1 z1 q2 z2 q3 z3 q4
  by_cases z4 : x4 = 0
  · subst z4
    rcases qy : Gz.rdk (Bt.unpack l) a4 12 with _ | ⟨y, c⟩
    · exact chg_b2n h q1 z1 q2 z2 q3 z3 q4 qy
    · exact chg_b2s h q1 z1 q2 z2 q3 z3 q4 qy
  rcases qy : Gz.rdk (Bt.unpack l) a4 64 with _ | ⟨y, c⟩
  · exact chg_ln h q1 z1 q2 z2 q3 z3 q4 z4 qy
  · exact chg_ls h q1 z1 q2 z2 q3 z3 q4 z4 qy
end Go.Proofs.YtepjpdhmjchakaaGreatDoor
