/- The walk of FrameSplits. No condition. -/
import Derived.Test.YtckmeomhcikmoaaFrRefD
import Derived.Test.YtckmeomhcikmoaaWFrameScans
namespace Go.Proofs.Ytckmeomhcikmoaa.frameSplits
open Go.RowKit
open Go.Proofs.Ytckmeomhcikmoaa.frameScans (bo_new bo_below Gr3.orow)
set_option maxRecDepth 100000
set_option maxHeartbeats 2000000

theorem splitW_rows (seg : BitVec 32) (a : Int) (r : List UInt8) : (Fr.splitW seg a r).1.length ≤ 32 ∧ ∀ x ∈ (Fr.splitW seg a r).1, x.length = 256 := by
  unfold Fr.splitW
  by_cases h1 : 7680 < r.length
  · rw [if_pos h1]; exact ⟨by simp, by simp⟩
  rw [if_neg h1]
  by_cases h2 : a < 0 ∨ 32 - (Fr.cnt r : Int) < a
  · rw [if_pos h2]; exact ⟨by simp, by simp⟩
  rw [if_neg h2]
  refine ⟨by rw [Fr.splitL_len]; exact Fr.cnt_le (by omega), fun x hx => ?_⟩
  rw [Fr.splitL, List.mem_map] at hx
  obtain ⟨i, _, rfl⟩ := hx
  exact Fr.one_len _ _ _ _ _

theorem ORow.grownB {w w' : World} {base g : Nat} {v : Value} {vs : List Value} {rows : List (List UInt8)} (h : ORow w base v vs rows) (hg : g < base) (gr : w.grownBy w' (some g)) : ORow w' base v vs rows :=
  h.same (fun k hk => gr.block k (h.lt.1 k hk).2 (fun e => by injection e with e; have := (h.lt.1 k hk).1; omega)) (fun u hu k hk => gr.block k (h.lt.2 u hu k hk).2 (fun e => by injection e with e; have := (h.lt.2 u hu k hk).1; omega))
theorem Gr3.orowN {B N : Nat} {r s : Option Nat} {w w' : World} (g : Gr3 B r s w w') {base : Nat} {v : Value} {vs : List Value} {rows : List (List UInt8)} (h : ORow w base v vs rows) {cs : Array Value} (hB : w.heap[B]? = some (.cells cs 72 (0, 0))) (h1 : ∀ k, v.ownBlock = some k → k < N) (h2 : ∀ u ∈ vs, ∀ k, u.ownBlock = some k → k < N) (hr : ∀ k, r = some k → N ≤ k) (hs : ∀ k, s = some k → N ≤ k) : ORow w' base v vs rows := by
  have key : ∀ {e : TypeId} {u : Value} {m : Nat} {zs : List Value}, w.ownsRow base e 1 u m zs → e ≠ 72 → (∀ k, u.ownBlock = some k → k < N) → w'.ownsRow base e 1 u m zs := fun hu he hk => g.kept hu (own_block_ne hu hB he) (fun k hk1 hk2 => by have := hr k hk1; have := hk k hk2; omega) (fun k hk1 hk2 => by have := hs k hk1; have := hk k hk2; omega)
  exact ⟨key h.row (by decide) h1, h.len, fun i u q hu hq => key (h.each i u q hu hq) (by decide) (h2 u (List.mem_of_getElem? hu)), h.apt⟩

theorem walk (a0 : Int) (a1 : Int) (v2 : Value) (l2 : List UInt8) (w : World) (w0 : (Lit.int .u32 a0).wf = true) (w1 : (Lit.int .i64 a1).wf = true) (w2 : Sl 0 w.heap.size f8 w v2 l2) :
    Calls Try.prog 7 #[.int .u32 a0, .int .i64 a1, v2] w fun e w' => e = .returned (.bool true) ∧ Below w.heap.size w w' := by
  obtain ⟨seg, rfl⟩ := of_wf32 w0
  have ha : -9223372036854775808 ≤ a1 ∧ a1 ≤ 9223372036854775807 := by
    have := w1; simp [Lit.wf, IntKind.min, IntKind.max, IntKind.signed, IntKind.bits] at this; omega
  have HV := Lib.hid w2
  obtain ⟨ao, cap, rfl, hv⟩ := w2
  clear w0 w1 hv
  by_cases hlen : 100000 < l2.length
  · have i1 : (100000 : Int) < (l2.length : Int) := by omega
    go_enter Try.func7, Try.ntmps7
    go_wp2
    go_ret
    exact ⟨rfl, Below.refl _ _⟩
  have i1 : ¬ (100000 : Int) < (l2.length : Int) := by omega
  have hl : l2.length ≤ 140737488355328 := by omega
  obtain ⟨R, E, hRE⟩ : ∃ R E, Fr.splitW seg a1 l2 = (R, E) := ⟨_, _, rfl⟩
  have hsz := splitW_rows seg a1 l2
  rw [hRE] at hsz
  have hR1 : R.length ≤ 32 := hsz.1
  have HRE := Lib.hid hRE
  have HSZ := Lib.hid hsz.2
  clear hRE hsz
  go_enter Try.func7, Try.ntmps7
  go_wp2_with fail
  refine (lent_any 0 w.heap.size w _ l2 HV.out (Nat.le_refl _)).mono ?_
  rintro e w1 ⟨g, rfl, hg, hblk, hb1⟩
  have hs1 := hb1.size
  have hgl := heap_lt hblk
  have HBK := Lib.hid hblk
  clear hblk
  go_wp2_with fail
  refine Calls.mono (split_at g (g + 1) w1 _ seg (by rfl) a1 ha _ l2 (lent_sl hl HBK.out) hgl R E HRE.out) ?_
  rintro e w2 ⟨u2, vs2, rfl, hr2, hb2⟩
  have hs2 := hb2.size
  have hb02 := hb1.trans (hb2.mono hs1)
  have HBK2 := Lib.hid ((hb2.block g hgl).trans HBK.out)
  have HR2 := Lib.hid hr2
  have hlt2 := hr2.lt
  have HLT2 := Lib.hid hlt2
  clear hr2 hlt2
  go_wp2_with fail
  refine Calls.mono (split_at g (g + 1) w2 _ seg (by rfl) a1 ha _ l2 (lent_sl hl HBK2.out) (by omega) R E HRE.out) ?_
  rintro e w3 ⟨u3, vs3, rfl, hr3, hb3⟩
  have hs3 := hb3.size
  have hb03 := hb02.trans (hb3.mono hb02.size)
  have HBK3 := Lib.hid ((hb3.block g (by omega)).trans HBK2.out)
  have HR3 := Lib.hid hr3
  have HLT3 := Lib.hid hr3.lt
  have HR23 := Lib.hid (HR2.out.below hb3 (Nat.le_refl _))
  have hsame : sameB l2 l2 = true := by simp [sameB]
  have HSB := Lib.hid hsame
  clear hr3 hsame
  go_wp2_with fail
  refine (whole_any 0 w.heap.size g w3 _ l2 l2 hl HBK3.out (HV.out.below hb03 (Nat.le_refl _))).mono ?_
  rintro e w4 ⟨rfl, n4, hw4⟩
  rw [HSB.out]
  have hb34 : Below w3.heap.size w3 w4 := by rw [hw4]; exact drew_below _ _ _
  have hs4 := hb34.size
  have hb04 := hb03.trans (hb34.mono hb03.size)
  have HBK4 := Lib.hid ((hb34.block g (by omega)).trans HBK3.out)
  have HR24 := Lib.hid (HR23.out.below hb34 (Nat.le_refl _))
  have HR34 := Lib.hid (HR3.out.below hb34 (Nat.le_refl _))
  clear hw4
  go_wp2_with fail
  refine (spoil_any g (l2.length + 2) w4 _ (by omega) (by simp) HBK4.out l2.length).mono ?_
  rintro e w5 ⟨rfl, hgr⟩
  have hb05 := hb04.grown hgr hb04.size (fun q hq => by injection hq with hq; omega)
  have hs5 := hgr.size
  have HR25 := Lib.hid (ORow.grownB HR24.out (by omega) hgr)
  have HR35 := Lib.hid (ORow.grownB HR34.out (by omega) hgr)
  clear hgr
  go_wp2_with fail
  refine Calls.mono (rsplit_at 0 w.heap.size w5 seg a1 ha _ l2 (HV.out.below hb05 (Nat.le_refl _)) hb05.size R E HRE.out) ?_
  rintro e w6 ⟨u6, vs6, rfl, hr6, hb6⟩
  have hs6 := hb6.size
  have hb06 := hb05.trans (hb6.mono hb05.size)
  have HLT6 := Lib.hid hr6.lt
  have hb7 : Below w6.heap.size w6 (w6.alloc (.cells (bookCells (.slice none 0 0) (.slice none 0 0)) 72)) := (Below.refl _ _).alloc (Nat.le_refl _) _
  have HBO := Lib.hid (bo_new w6 w.heap.size)
  have HRA7 := Lib.hid ((HR25.out.below hb6 (Nat.le_refl _)).below hb7 (Nat.le_refl _))
  have HRB7 := Lib.hid ((HR35.out.below hb6 (Nat.le_refl _)).below hb7 (Nat.le_refl _))
  have HRW7 := Lib.hid (hr6.below hb7 (Nat.le_refl _))
  have HB7 := Lib.hid (hb06.trans (hb7.mono hb06.size))
  have HC7 : Hid ((w6.alloc (.cells (bookCells (.slice none 0 0) (.slice none 0 0)) 72)).heap[w6.heap.size]? = some (.cells (bookCells (.slice none 0 0) (.slice none 0 0)) 72 (0, 0))) := Lib.hid (heap_alloc_new _ _)
  have hs06 := hb06.size
  have hsx : w6.heap.size ≤ (w6.alloc (.cells (bookCells (.slice none 0 0) (.slice none 0 0)) 72)).heap.size := hb7.size
  clear hr6
  go_wp2_with fail
  refine Calls.mono (bookRows_any (w6.alloc (.cells (bookCells (.slice none 0 0) (.slice none 0 0)) 72)) w.heap.size w1.heap.size w6.heap.size (.slice none 0 0) [] (.slice none 0 0) [] u2 vs2 R HBO.out HRA7.out hs1 (by omega) (by simp) (by simp) ?_ (by simp; omega) (by simp) (fun r hr => by have := HSZ.out r hr; omega)) ?_
  · rcases hu : u2.ownBlock with _ | k
    · exact .inr rfl
    · exact .inl (fun e => by cases e)
  rintro e w8 ⟨rfl, vb8, vr8, hbo8, hgr8, han1, han2⟩
  have hb08 := HB7.out.trans (hgr8.below (C := w.heap.size) HB7.out.size hs06 (fun k hk => by cases hk) (fun k hk => by cases hk))
  have hs8 := hgr8.size
  have HRA8 := Lib.hid (Gr3.orow hgr8 HRA7.out HC7.out rfl rfl)
  have HRB8 := Lib.hid (Gr3.orow hgr8 HRB7.out HC7.out rfl rfl)
  have HRW8 := Lib.hid (Gr3.orow hgr8 HRW7.out HC7.out rfl rfl)
  have hvb : ∀ k, vb8.ownBlock = some k → w6.heap.size ≤ k := fun k hk => by
    rcases han1 k hk with e | e
    · cases e
    · omega
  have hvr : ∀ k, vr8.ownBlock = some k → w6.heap.size ≤ k := fun k hk => by
    rcases han2 k hk with e | e
    · cases e
    · omega
  have HBO8 := Lib.hid hbo8
  have HB8 := Lib.hid hb08
  have HVB := Lib.hid hvb
  have HVR := Lib.hid hvr
  have hs08 := hb08.size
  clear hbo8 hgr8 han1 han2 hb08 hvb hvr
  go_wp2_with fail
  refine Calls.mono (bookRows_any w8 w.heap.size w2.heap.size w6.heap.size vb8 ([] ++ vs2) vr8 ([] ++ [u2]) u3 vs3 R HBO8.out HRB8.out hb02.size (by omega) ?_ ?_ ?_ (by rw [List.nil_append, HRA8.out.len]; omega) (by simp) (fun r hr => by have := HSZ.out r hr; omega)) ?_
  · intro x hx k hk
    rw [List.nil_append] at hx
    exact (HLT2.out.2 x hx k hk).2
  · intro x hx k hk
    rw [List.nil_append, List.mem_singleton] at hx
    subst hx
    exact (HLT2.out.1 k hk).2
  · rcases hu : u3.ownBlock with _ | k
    · exact .inr rfl
    · refine .inl (fun e => ?_)
      have h1 := HVB.out k e
      have h2 := (HLT3.out.1 k hu).2
      omega
  rintro e w9 ⟨rfl, vb9, vr9, hbo9, hgr9, _, _⟩
  obtain ⟨cs8, hcs8⟩ : ∃ cs, w8.heap[w6.heap.size]? = some (.cells cs 72 (0, 0)) := by
    obtain ⟨⟨_, _, hbk, _⟩, _⟩ := HBO8.out
    exact ⟨_, hbk.cell⟩
  have hb09 := HB8.out.trans (hgr9.below (C := w.heap.size) hs08 hs06 (fun k hk => Nat.le_trans hs06 (HVB.out k hk)) (fun k hk => Nat.le_trans hs06 (HVR.out k hk)))
  have hs9 := hgr9.size
  have HRA9 := Lib.hid (Gr3.orowN (N := w6.heap.size) hgr9 HRA8.out hcs8 (fun k hk => by have := (HLT2.out.1 k hk).2; omega) (fun u hu k hk => by have := (HLT2.out.2 u hu k hk).2; omega) HVB.out HVR.out)
  have HRB9 := Lib.hid (Gr3.orowN (N := w6.heap.size) hgr9 HRB8.out hcs8 (fun k hk => by have := (HLT3.out.1 k hk).2; omega) (fun u hu k hk => by have := (HLT3.out.2 u hu k hk).2; omega) HVB.out HVR.out)
  have HRW9 := Lib.hid (Gr3.orowN (N := w6.heap.size) hgr9 HRW8.out hcs8 (fun k hk => (HLT6.out.1 k hk).2) (fun u hu k hk => (HLT6.out.2 u hu k hk).2) HVB.out HVR.out)
  have HBO9 := Lib.hid hbo9
  have HB9 := Lib.hid hb09
  have hs09 := hb09.size
  have hsR : sameR R R = true := by simp [sameR]
  have HSM := Lib.hid hsR
  have HRL : Hid (∀ r ∈ R, r.length ≤ 140737488355328) := Lib.hid (fun r hr => by have := HSZ.out r hr; omega)
  clear hbo9 hgr9 hcs8 hb09 hsR hb1 hb2 hb02 hb3 hb03 hb34 hb04 hb05 hb6 hb06 hb7
  have tk1 := True.intro
  go_wp2_with (first
    | (go_at_call 25; obtain ⟨⟨ln, lm, hbk, hln, hlm⟩, _⟩ := HBO12.out; refine Calls.mono (own_any _ w.heap.size w6.heap.size vb9 _ ln vr9 _ lm hbk (fun j => Nat.le_trans (hln j) (by decide)) (fun j => Nat.le_trans (hlm j) (by decide)) (by rw [List.nil_append, List.length_append, HRA9.out.len, HRB9.out.len]; omega) (by simp) hs012) ?_; rintro e w13 ⟨rfl, hb13⟩)
    | (go_at_call 24; have tk3 := tk2; clear tk2; refine (sameRows_any _ _ _ _ _ _ _ R R HXB11.out HXW11.out).mono ?_; rintro e w12 ⟨rfl, n12, hw12⟩; rw [HSM.out]; have hb112 : Below w11.heap.size w11 w12 := (by rw [hw12]; exact drew_below _ _ _); have hs012 : w.heap.size ≤ w12.heap.size := Nat.le_trans hs011 hb112.size; have HBO12 := Lib.hid (bo_below HBO11.out hb112); have HB12 := Lib.hid (HB11.out.trans (hb112.mono hs011)); clear hw12 hb112)
    | (go_at_call 24; have tk2 := tk1; clear tk1; refine (sameRows_any _ _ _ _ _ _ _ R R HXA10.out HXW10.out).mono ?_; rintro e w11 ⟨rfl, n11, hw11⟩; rw [HSM.out]; have hb1011 : Below w10.heap.size w10 w11 := (by rw [hw11]; exact drew_below _ _ _); have hs011 : w.heap.size ≤ w11.heap.size := Nat.le_trans hs010 hb1011.size; have HBO11 := Lib.hid (bo_below HBO10.out hb1011); have HXB11 := Lib.hid (HXB10.out.same (w' := w11) (fun k _ _ => by rw [hw11]; rfl)); have HXW11 := Lib.hid (HXW10.out.same (w' := w11) (fun k _ _ => by rw [hw11]; rfl)); have HB11 := Lib.hid (HB10.out.trans (hb1011.mono hs010)); clear hw11 hb1011)
    | (go_at_call 23; refine (frKnown_any _).mono ?_; rintro e w10 ⟨rfl, hb10⟩; have hs010 : w.heap.size ≤ w10.heap.size := Nat.le_trans hs09 hb10.size; have HBO10 := Lib.hid (bo_below HBO9.out hb10); have HXA10 := Lib.hid ((HRA9.out.below hb10 (Nat.le_refl _)).rws (by omega) HRL.out); have HXB10 := Lib.hid ((HRB9.out.below hb10 (Nat.le_refl _)).rws (by omega) HRL.out); have HXW10 := Lib.hid ((HRW9.out.below hb10 (Nat.le_refl _)).rws (by omega) HRL.out); have HB10 := Lib.hid (HB9.out.trans (hb10.mono hs09)); clear hb10))
  go_ret
  exact ⟨rfl, HB12.out.trans hb13⟩
end Go.Proofs.Ytckmeomhcikmoaa.frameSplits
