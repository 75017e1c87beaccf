import Derived.Test.YtepjpdhmjchakaaGreatDoorQ20
/- The book of bytes, samples and chunks: each row is its owner's. Printed by genbookg.py. -/
namespace Go.Proofs.YtepjpdhmjchakaaGreatDoor
open Go.RowKit
set_option linter.unusedVariables false

set_option maxHeartbeats 8000000 in
set_option maxRecDepth 100000 in
theorem ownG_any (w : World) (base B : Nat) (vb : Value) (vs : List Value) (ln : Nat → Nat) (ss cs sv cv : Value) (ns nc : Nat) (xs ys : List Value) (h : BookG w base B vb vs ln ss cs) (hs : w.ownsRow base 22 1 ss 1 [sv]) (hsv : w.ownsRow base 79 2 sv ns xs) (hc : w.ownsRow base 23 1 cs 1 [cv]) (hcv : w.ownsRow base 26 4 cv nc ys)
    (hns : ns ≤ 1000000000) (hnc : nc ≤ 1000000000) (hln : ∀ j, ln j ≤ 1099511627776) (hN : vs.length ≤ 1000000000) (hb : base ≤ w.heap.size) :
    Calls Tryz.prog 19 #[.pointer (some ⟨B, 0, none⟩)] w fun e w' => e = .returned (.bool true) ∧ Below base w w' := by
  have HB := Lib.hid h
  obtain ⟨c0, -, -, -, -, -, -, -, -, -, -, -, -, -, -, -, -, -, -, -, -, -, -, -, -, -, -, -, -, -, -, -⟩ := bk3_cells h.cell
  have HC := Lib.hid (ownBytes_any w base vb vs ln h.bytes h.apt hln hN hb)
  have HS := Lib.hid hs
  have HSV := Lib.hid hsv
  have HCC := Lib.hid hc
  have HCV := Lib.hid hcv
  obtain ⟨ab, cb, rfl⟩ := own_slice h.bytes.row
  obtain ⟨asx, qs, rfl⟩ := own_slice hs
  obtain ⟨ac, qc, rfl⟩ := own_slice hc
  generalize hss : Value.slice asx 1 qs = ss at *
  generalize hcs : Value.slice ac 1 qc = cs at *
  clear h hs hsv hc hcv hss hcs
  go_enter Tryz.func19, Tryz.ntmps19
  go_wp2_with (first
    | (go_at_call 34; refine Calls.mono HC.out ?_; rintro e w1 ⟨rfl, ho1⟩; have hcell1 := HB.out.bytes.block ho1 HB.out.cell (by decide); obtain ⟨-, p1, p2, p3, p4, p5, p6, p7, p8, p9, p10, -, -, -, -, -, -, -, -, -, -, -, -, -, -, -, -, -, -, -, -, -⟩ := bk3_cells hcell1; clear c0; have HO1 := Lib.hid ho1; have HCell1 := Lib.hid hcell1; have HS1 := Lib.hid (HB.out.bytes.keeps ho1 HS.out (by decide)); have HSV1 := Lib.hid (HB.out.bytes.keeps ho1 HSV.out (by decide)); have HC1 := Lib.hid (HB.out.bytes.keeps ho1 HCC.out (by decide)); have HCV1 := Lib.hid (HB.out.bytes.keeps ho1 HCV.out (by decide)); clear ho1 hcell1)
    | (go_at_call 35; refine (nil_Texts _).mono ?_; rintro e wx ⟨rfl, rfl⟩)
    | (go_at_call 36; refine (nil_Ints _).mono ?_; rintro e wx ⟨rfl, rfl⟩)
    | (go_at_call 37; refine (nil_Longs _).mono ?_; rintro e wx ⟨rfl, rfl⟩)
    | (go_at_call 38; refine (nil_Numbers _).mono ?_; rintro e wx ⟨rfl, rfl⟩)
    | (go_at_call 39; refine (nil_Nums _).mono ?_; rintro e wx ⟨rfl, rfl⟩)
    | (go_at_call 40; refine (nil_Words _).mono ?_; rintro e wx ⟨rfl, rfl⟩)
    | (go_at_call 41; refine (nil_Types _).mono ?_; rintro e wx ⟨rfl, rfl⟩)
    | (go_at_call 42; refine (nil_Errs _).mono ?_; rintro e wx ⟨rfl, rfl⟩)
    | (go_at_call 43; refine (nil_Labels _).mono ?_; rintro e wx ⟨rfl, rfl⟩)
    | (go_at_call 44; refine Calls.mono (by exact ownSm_any w1 base ss sv ns xs HS1.out HSV1.out hns (by have := HO1.out.size; omega)) ?_; rintro e w2 ⟨rfl, ho2⟩; have hcell2 := cell_oth ho2 HSV1.out HCell1.out (by decide); obtain ⟨-, -, -, -, -, -, -, -, -, -, -, q11, q12, q13, q14, q15, q16, q17, q18, q19, q20, q21, q22, q23, q24, q25, q26, -, -, -, -, -⟩ := bk3_cells hcell2; have HO2 := Lib.hid ho2; have HCell2 := Lib.hid hcell2; have HC2 := Lib.hid (keep_oth ho2 HSV1.out HC1.out (by decide)); have HCV2 := Lib.hid (keep_oth ho2 HSV1.out HCV1.out (by decide)); clear ho2 hcell2)
    | (go_at_call 45; refine (nil_Matchers _).mono ?_; rintro e wx ⟨rfl, rfl⟩)
    | (go_at_call 46; refine (nil_Intervals _).mono ?_; rintro e wx ⟨rfl, rfl⟩)
    | (go_at_call 47; refine (nil_Places _).mono ?_; rintro e wx ⟨rfl, rfl⟩)
    | (go_at_call 48; refine (nil_Metas _).mono ?_; rintro e wx ⟨rfl, rfl⟩)
    | (go_at_call 49; refine (nil_Files _).mono ?_; rintro e wx ⟨rfl, rfl⟩)
    | (go_at_call 50; refine (nil_Tokens _).mono ?_; rintro e wx ⟨rfl, rfl⟩)
    | (go_at_call 51; refine (nil_Sets _).mono ?_; rintro e wx ⟨rfl, rfl⟩)
    | (go_at_call 52; refine (nil_Rows _).mono ?_; rintro e wx ⟨rfl, rfl⟩)
    | (go_at_call 53; refine (nil_Lists _).mono ?_; rintro e wx ⟨rfl, rfl⟩)
    | (go_at_call 54; refine (nil_IntLists _).mono ?_; rintro e wx ⟨rfl, rfl⟩)
    | (go_at_call 55; refine (nil_Elems _).mono ?_; rintro e wx ⟨rfl, rfl⟩)
    | (go_at_call 56; refine (nil_Series _).mono ?_; rintro e wx ⟨rfl, rfl⟩)
    | (go_at_call 57; refine (nil_Puts _).mono ?_; rintro e wx ⟨rfl, rfl⟩)
    | (go_at_call 58; refine (nil_Lasts _).mono ?_; rintro e wx ⟨rfl, rfl⟩)
    | (go_at_call 59; refine (nil_Tombs _).mono ?_; rintro e wx ⟨rfl, rfl⟩)
    | (go_at_call 60; refine Calls.mono (by exact ownCk_any w2 base cs cv nc ys HC2.out HCV2.out hnc (by have := HO1.out.size; have := HO2.out.size; omega)) ?_; rintro e w3 ⟨rfl, ho3⟩; have hcell3 := cell_oth ho3 HCV2.out HCell2.out (by decide); obtain ⟨-, -, -, -, -, -, -, -, -, -, -, -, -, -, -, -, -, -, -, -, -, -, -, -, -, -, -, r27, r28, r29, -, -⟩ := bk3_cells hcell3; have HO3 := Lib.hid ho3; have HCell3 := Lib.hid hcell3; clear ho3 hcell3)
    | (go_at_call 61; refine (nil_Entries _).mono ?_; rintro e wx ⟨rfl, rfl⟩)
    | (go_at_call 62; refine (nil_Mutations _).mono ?_; rintro e wx ⟨rfl, rfl⟩)
    | (go_at_call 63; refine (nil_Bools _).mono ?_; rintro e w4 ⟨rfl, hb4⟩; have hcell4 := (hb4.block B (heap_lt HCell3.out)).trans HCell3.out; obtain ⟨-, -, -, -, -, -, -, -, -, -, -, -, -, -, -, -, -, -, -, -, -, -, -, -, -, -, -, -, -, t29, t30, t31⟩ := bk3_cells hcell4; have HB4 := Lib.hid hb4; clear hb4 hcell4)
    | (go_at_call 64; refine (nil_Nodes _).mono ?_; rintro e wx ⟨rfl, rfl⟩)
    | (go_at_call 65; refine (nil_Jsons _).mono ?_; rintro e wx ⟨rfl, rfl⟩))
  go_ret
  have hs1 := HO1.out.size
  have hs2 := HO2.out.size
  have hs3 := HO3.out.size
  refine ⟨rfl, (((HO1.out.below hb HB.out.bytes.low).trans (HO2.out.below (by omega) (fun u hu k hk => ?_))).trans (HO3.out.below (by omega) (fun u hu k hk => ?_))).trans (HB4.out.mono (by omega))⟩
  · simp at hu; subst hu; exact (HSV1.out.lt k hk).1
  · simp at hu; subst hu; exact (HCV2.out.lt k hk).1
end Go.Proofs.YtepjpdhmjchakaaGreatDoor
