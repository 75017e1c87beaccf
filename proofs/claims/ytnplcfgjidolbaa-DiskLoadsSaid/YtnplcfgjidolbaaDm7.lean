/- What the chapter's examples fix of a disk. Flush, Image. The reference's disk in memory; whether an operation begins; the trip. -/
import Derived.Test.YtnplcfgjidolbaaDm6
section
namespace Go.Proofs.Ytnplcfgjidolbaa
open Go.RowKit Go.Maps

theorem drewN_b (w : World) (n : Nat) : Below w.heap.size w (w.drewN n) := ⟨rfl, rfl, rfl, Nat.le_refl _, fun _ _ => rfl⟩
theorem own_slice' {w : World} {base : Nat} {e : TypeId} {size : Nat} {v : Value} {n : Nat} {xs : List Value} (h : w.ownsRow base e size v n xs) : ∃ ao cap, v = .slice ao n cap := own_slice h
theorem keep3 (w8 W : World) {base : Nat} (hW : Dfr base (w8.alloc (.cells #[.bool true, .bool false, .bool true] 4)) W) : Sl 0 W.heap.size fB W (.slice (some ⟨w8.heap.size, 0, none⟩) 3 3) [true, false, true] := by
  have hb : W.heap[w8.heap.size]? = some (.cells #[.bool true, .bool false, .bool true] 4 (0, 0)) := (hW.keep _ _ _ _ (heap_alloc_new _ _) (by decide) (by decide) (by decide)).trans (heap_alloc_new _ _)
  refine ⟨some ⟨w8.heap.size, 0, none⟩, 3, rfl, by decide, (fun h => by cases h), fun _ => ⟨w8.heap.size, 0, rfl, Nat.zero_le _, heap_lt' hb, fun j hj => ?_⟩, by decide⟩
  rw [cell_of_row _ _ _ _ _ _ hb]
  match j, hj with
  | 0, _ => rfl
  | 1, _ => rfl
  | 2, _ => rfl
theorem ksector' {w wr : World} {B lb bm : Nat} {d : Dsk} (h : Kd w wr B lb bm d) (x : UInt8) (z : Int) (hz : z = W8 x) {s : List UInt8} (hs : List.replicate 256 x = s) : Calls Try.prog 33 #[.int .u8 z] wr fun e w' => ∃ v, e = .returned v ∧ Kd w w' B lb bm d ∧ w'.ownsRow w.heap.size 5 1 v s.length (s.map f8) ∧ Dfr w.heap.size wr w' := by
  subst hs
  exact ksector h x z hz
theorem same_rep (x : UInt8) : sameB (List.replicate 256 x) (List.replicate 256 x) = true := by simp [sameB]

set_option maxHeartbeats 4000000 in
set_option maxRecDepth 100000 in
theorem known5_any (w : World) : Calls Try.prog 30 #[] w fun e w' => e = .returned (.bool true) ∧ Below w.heap.size w w' := by
  obtain ⟨sa, ha⟩ : ∃ s, List.replicate 256 (97 : UInt8) = s := ⟨_, rfl⟩
  obtain ⟨sb, hb⟩ : ∃ s, List.replicate 256 (98 : UInt8) = s := ⟨_, rfl⟩
  obtain ⟨sc, hc⟩ : ∃ s, List.replicate 256 (99 : UInt8) = s := ⟨_, rfl⟩
  obtain ⟨sz, hz⟩ : ∃ s, List.replicate 256 (0 : UInt8) = s := ⟨_, rfl⟩
  have la : sa.length = 256 := by rw [← ha, List.length_replicate]
  have lb' : sb.length = 256 := by rw [← hb, List.length_replicate]
  have lc : sc.length = 256 := by rw [← hc, List.length_replicate]
  have h97 : sameB sa sa = true := by simp [sameB]
  have h98 : sameB sb sb = true := by simp [sameB]
  have h99 : sameB sc sc = true := by simp [sameB]
  go_enter Try.func30, Try.ntmps30
  go_wp2_with (first
    | (go_at_call 16; refine (ksame O11.out lc O17.out lc).mono ?_; rintro e w18 ⟨rfl, n18, rfl⟩; have K18 := Lib.hid (K17.out.step (drewN_b _ n18)); skip)
    | (go_at_call 33; refine (ksector' K16.out 99 _ (by decide) hc).mono ?_; rintro e w17 ⟨v17, rfl, hk, ho, hf⟩; have K17 := Lib.hid hk; have O17 := Lib.hid ho; have O11 := Lib.hid (hf.own O11.out (by decide) (by decide) (by decide)); clear hk ho hf)
    | (go_at_call 16; refine (ksame O10.out la O15.out la).mono ?_; rintro e w16 ⟨rfl, n16, rfl⟩; have K16 := Lib.hid (K15.out.step (drewN_b _ n16)); have O11 := Lib.hid (own_of_same (w' := w15.drewN n16) O11.out (fun _ _ => rfl)))
    | (go_at_call 33; refine (ksector' K14.out 97 _ (by decide) ha).mono ?_; rintro e w15 ⟨v15, rfl, hk, ho, hf⟩; have K15 := Lib.hid hk; have O15 := Lib.hid ho; have O10 := Lib.hid (hf.own O10.out (by decide) (by decide) (by decide)); have O11 := Lib.hid (hf.own O11.out (by decide) (by decide) (by decide)); clear hk ho hf)
    | (go_at_call 16; refine (ksame O8.out lb' O13.out lb').mono ?_; rintro e w14 ⟨rfl, n14, rfl⟩; have K14 := Lib.hid (K13.out.step (drewN_b _ n14)); have O10 := Lib.hid (own_of_same (w' := w13.drewN n14) O10.out (fun _ _ => rfl)); have O11 := Lib.hid (own_of_same (w' := w13.drewN n14) O11.out (fun _ _ => rfl)))
    | (go_at_call 33; refine (ksector' K12.out 98 _ (by decide) hb).mono ?_; rintro e w13 ⟨v13, rfl, hk, ho, hf⟩; have K13 := Lib.hid hk; have O13 := Lib.hid ho; have O8 := Lib.hid (hf.own O8.out (by decide) (by decide) (by decide)); have O10 := Lib.hid (hf.own O10.out (by decide) (by decide) (by decide)); have O11 := Lib.hid (hf.own O11.out (by decide) (by decide) (by decide)); clear hk ho hf)
    | (go_at_call 36; refine (kcounts K11.out).mono ?_; rintro e w12 ⟨he, hk, hf⟩; have he : e = .returned (.agg #[.int .i64 3, .int .i64 3, .int .i64 0]) := he; subst he; have K12 := Lib.hid hk; have O8 := Lib.hid (hf.own O8.out (by decide) (by decide) (by decide)); have O10 := Lib.hid (hf.own O10.out (by decide) (by decide) (by decide)); have O11 := Lib.hid (hf.own O11.out (by decide) (by decide) (by decide)); clear hk hf)
    | (go_at_call 39; refine (cread K10.out ⟨by simp, by simp, by simp, by simp⟩ 1 (by simp) sc rfl).mono ?_; rintro e w11 ⟨v11, rfl, hk, ho, _, hf⟩; have K11 : Hid (Kd w w11 B lb bm (calm [sa, sc] [] 3 3)) := Lib.hid hk; have O11 := Lib.hid ho; have O8 := Lib.hid (hf.own O8.out (by decide) (by decide) (by decide)); have O10 := Lib.hid (hf.own O10.out (by decide) (by decide) (by decide)); clear hk ho hf)
    | (go_at_call 39; refine (cread K9.out ⟨by simp, by simp, by simp, by simp⟩ 0 (by simp) sa rfl).mono ?_; rintro e w10 ⟨v10, rfl, hk, ho, _, hf⟩; have K10 : Hid (Kd w w10 B lb bm (calm [sa, sc] [] 2 3)) := Lib.hid hk; have O10 := Lib.hid ho; have O8 := Lib.hid (hf.own O8.out (by decide) (by decide) (by decide)); clear hk ho hf)
    | (go_at_call 38; refine (ccut (K8.out.step ((Below.refl _ _).alloc (Nat.le_refl _) _)) ⟨by simp, by simp, by simp, by simp⟩ _ [true, false, true] (fun W hW => keep3 w8 W hW) [sa, sc] rfl).mono ?_; rintro e w9 ⟨rfl, hk, hf⟩; have K9 : Hid (Kd w w9 B lb bm (calm [sa, sc] [] 1 3)) := Lib.hid hk; have O8 := Lib.hid (hf.own (O8.out.alloc _) (by decide) (by decide) (by decide)); clear hk hf)
    | (go_at_call 39; refine (cread K7.out ⟨by simp, by simp, by simp, by simp⟩ 0 (by simp) sb rfl).mono ?_; rintro e w8 ⟨v8, rfl, hk, ho, _, hf⟩; have K8 : Hid (Kd w w8 B lb bm (calm [sz, sz] [(0, sa), (0, sb), (1, sc)] 1 3)) := Lib.hid hk; have O8 := Lib.hid ho; clear hk ho hf)
    | (go_at_call 32; refine (cwrite K6.out ⟨by simp, by simp, by simp, by simp⟩ 1 (by simp) v6 _ lc _ O6.out).mono ?_; rintro e w7 ⟨rfl, hk, hf⟩; have K7 : Hid (Kd w w7 B lb bm (calm [sz, sz] [(0, sa), (0, sb), (1, sc)] 0 3)) := Lib.hid hk; clear hk hf)
    | (go_at_call 33; refine (ksector' K5.out 99 _ (by decide) hc).mono ?_; rintro e w6 ⟨v6, rfl, hk, ho, hf⟩; have K6 := Lib.hid hk; have O6 := Lib.hid ho; clear hk ho hf)
    | (go_at_call 32; refine (cwrite K4.out ⟨by simp, by simp, by simp, by simp⟩ 0 (by simp) v4 _ lb' _ O4.out).mono ?_; rintro e w5 ⟨rfl, hk, hf⟩; have K5 : Hid (Kd w w5 B lb bm (calm [sz, sz] [(0, sa), (0, sb)] 0 2)) := Lib.hid hk; clear hk hf)
    | (go_at_call 33; refine (ksector' K3.out 98 _ (by decide) hb).mono ?_; rintro e w4 ⟨v4, rfl, hk, ho, hf⟩; have K4 := Lib.hid hk; have O4 := Lib.hid ho; clear hk ho hf)
    | (go_at_call 32; refine (cwrite K2.out ⟨by simp, by simp, by simp, by simp⟩ 0 (by simp) v2 _ la _ O2.out).mono ?_; rintro e w3 ⟨rfl, hk, hf⟩; have K3 : Hid (Kd w w3 B lb bm (calm [sz, sz] [(0, sa)] 0 1)) := Lib.hid hk; clear hk hf)
    | (go_at_call 33; refine (ksector' K1.out 97 _ (by decide) ha).mono ?_; rintro e w2 ⟨v2, rfl, hk, ho, hf⟩; have K2 := Lib.hid hk; have O2 := Lib.hid ho; clear hk ho hf)
    | (go_at_call 29; refine (knew w 2 (by omega) (by omega)).mono ?_; rintro e w1 ⟨B, lb, bm, rfl, hk⟩; have K1 : Hid (Kd w w1 B lb bm (calm [sz, sz] [] 0 0)) := Lib.hid (by rw [← hz]; exact hk); clear hk))
  go_ret
  exact ⟨rfl, K18.out.2⟩
end Go.Proofs.Ytnplcfgjidolbaa
end
section
namespace Go.Proofs.Ytnplcfgjidolbaa
open Go.RowKit Go.Maps

set_option linter.unusedSimpArgs false
theorem yes_any (w : World) (i : Int) : Calls Try.prog 94 #[.int .i64 i] w fun e w' => e = .returned (.bool true) ∧ w = w' := by
  go_enter Try.func94, Try.ntmps94
  go_wp2
  go_ret
  exact ⟨rfl, rfl⟩

set_option maxHeartbeats 1000000 in
set_option maxRecDepth 100000 in
theorem settle94 (w : World) (base B lb bm : Nat) (cv : Value) (d : Dsk) (h : Dk w base B lb bm cv d) (hd : d.cs.length ≤ 100000000) :
    Calls Try.prog 90 #[.pointer (some ⟨B, 0, none⟩), .func (.func 94) #[] #[]] w fun e w' => e = .returned (.tuple #[]) ∧ Dk w' base B lb bm (.slice none 0 0) { d with ls := settled d.ls d.cs (fun _ => true), cs := [] } ∧ Dfr base w w' := by
  obtain ⟨c0, c1, c2, c3, c4, c5, c6, c7, fz⟩ := h.cells
  obtain ⟨av, cc, rfl⟩ := own_slice h.cache
  obtain ⟨fs, hfs⟩ := struct170
  obtain ⟨i0, hi0, hz⟩ := Option.map_eq_some_iff.1 info170
  simp only [Prod.mk.injEq] at hz
  obtain ⟨z0, hz0, hzs0⟩ := Option.map_eq_some_iff.1 hz.1
  obtain ⟨zc, hzc⟩ : ∃ zc, z0.cells = zc := ⟨_, rfl⟩
  rw [hzc] at hzs0
  have HZC := Lib.hid hzc
  have hzz : (Try.prog.info? 170).map (·.zero) = some (some z0) := by rw [hi0]; simp [hz0]
  have HFS := Lib.hid hfs
  have HZZ := Lib.hid hzz
  have HZS := Lib.hid hzs0
  have HD := Lib.hid h
  clear h hfs hzz hzs0 hi0 hz hz0 hzc c2 c3 c4 c5 c6 c7 c0
  go_enter Try.func90, Try.ntmps90
  go_wp2
  go_loopw [11] (fun i wr => ∃ k : Nat, k ≤ d.cs.length ∧ i = .int .i64 k ∧ Dk wr base B lb bm (.slice av d.cs.length cc) { d with ls := settled d.ls (d.cs.take k) (fun _ => true) } ∧ Dfr base w wr) (fun i _ => d.cs.length - (intOf i).toNat)
  case atStart => exact ⟨0, Nat.zero_le _, rfl, by simpa [settled] using HD.out, Dfr.refl _ _⟩
  case round =>
    obtain ⟨k, hk, rfl, hdk, hfr⟩ := hrel
    have HK := Lib.hid hdk
    have HF := Lib.hid hfr
    by_cases hlt : k < d.cs.length
    · obtain ⟨g, cap, hcv, _, _⟩ := own_shape hdk.cache (show 0 < d.cs.length by omega)
      injection hcv with hcv1 _ hcv2
      subst hcv1 hcv2
      have hrg := hdk.write rfl k hlt
      have hst := settled_take d.ls d.cs (fun _ => true) k hlt
      have hc256 := hdk.ok.2 _ (List.getElem_mem hlt)
      have hsl := settled_len d.ls (d.cs.take k) (fun _ => true)
      simp only [hsl] at hc256
      obtain ⟨d0, _, _, _, _, _, _, _, _⟩ := hdk.cells
      simp only [hsl] at d0
      generalize hc : d.cs[k] = c at *
      obtain ⟨hc1, hc2⟩ := hc256
      have hwl : (wcl c).length = 257 := by rw [wcl_len, hc1]
      have hsec : (Try.prog.info? 170).map (·.size) = some (wcl c).length := by rw [hwl]; exact size170
      have hszc : (wcl c).toArray.size = 257 := by simp [hwl]
      have b1 : Below wr.heap.size wr (wr.alloc (.cells zc 170)) := (Below.refl _ _).alloc (Nat.le_refl _) _
      have hb1 : (wr.alloc (.cells zc 170)).heap[wr.heap.size]? = some (.cells zc 170 (0, 0)) := heap_alloc_new _ _
      have hth := there_whole hb1 0 257 (by rw [HZS.out]; omega)
      have hb2 := heap_whole hb1 (wcl c) (by rw [HZS.out, hwl])
      have b2 : Below wr.heap.size wr ((wr.alloc (.cells zc 170)).setCells wr.heap.size 0 (wcl c)) := by
        obtain ⟨q1, q2, q3, q4⟩ := setCells_rest wr.heap.size (wcl c) 0 (wr.alloc (.cells zc 170))
        exact ⟨q1.trans b1.os, q2.trans b1.tape, q3.trans b1.output, by rw [q4]; exact b1.size, fun k hk => (heap_setCells_other' _ _ _ _ _ (by omega)).trans (b1.block k hk)⟩
      have hBl := heap_lt' hdk.top
      have hsz : base ≤ wr.heap.size := by have := hdk.lo.1; omega
      have hd2 := hdk.below b2
      have hf2 := hfr.trans (Dfr.ofBelow b2 hsz)
      have hlw : (0 : Int) ≤ (k : Int) ∧ (k : Int) < (d.cs.length : Int) := by omega
      have HRG := Lib.hid hrg
      have HSEC := Lib.hid hsec
      have HTH := Lib.hid hth
      have HB2 := Lib.hid hb2
      have HD2 := Lib.hid hd2
      have HF2 := Lib.hid hf2
      have HST := Lib.hid hst
      have hc0 := yes_any ((wr.alloc (.cells zc 170)).setCells wr.heap.size 0 (wcl c)) (k : Int)
      clear hdk hfr hrg hsec hth hb2 hd2 hf2 b1 b2 hb1 hst
      generalize hW2 : (wr.alloc (.cells zc 170)).setCells wr.heap.size 0 (wcl c) = W2 at *
      have HW2 := Lib.hid hW2
      clear hW2
      have hbf : true = true := rfl
      have HC := Lib.hid hc0
      clear hc0
      obtain ⟨e0, _, _, _, _, _, _, _, _⟩ := (HD2.out.below (drew_b _)).cells
      simp only [hsl] at e0
      have e1 : W2.drew.cell? ⟨wr.heap.size, 0, none⟩ = some (.int .i64 (c.1 : Int)) := (cell_of_row _ _ _ _ _ _ (show W2.drew.heap[wr.heap.size]? = _ from HB2.out)).trans (by simp [wcl])
      have e2 : W2.drew.rangeAt wr.heap.size 1 (sec c.2) := fun q v hv => by
        rw [cell_of_row _ _ _ _ _ _ (show W2.drew.heap[wr.heap.size]? = _ from HB2.out)]
        simp [wcl, hv, Nat.add_comm 1 q]
      have hu168 := und168
      have hsec2 : (Try.prog.info? 168).map (·.size) = some (sec c.2).length := by rw [sec_len, hc1]; exact size168
      have i3 : (0 : Int) ≤ (c.1 : Int) ∧ (c.1 : Int) < (d.ls.length : Int) := by omega
      have hlast := (HD2.out.below (drew_b _)).last c.1 (by simp only [hsl]; exact hc2) c.2 hc1
      have HLAST := Lib.hid hlast
      have hthl : W2.drew.there lb (c.1 * 256) 256 := there_whole (HD2.out.below (drew_b _)).las _ _ (by
        have h256 := flat_len (g := sec) (m := 256) (settled d.ls (d.cs.take k) (fun _ => true)) (fun x hx => by rw [sec_len]; exact HD2.out.ok.1 x hx)
        simp only [List.size_toArray, h256, hsl]
        have := Nat.mul_le_mul_right 256 (show c.1 + 1 ≤ d.ls.length from hc2)
        omega)
      have HTHL := Lib.hid hthl
      have hoth := heap_setCells_other' lb (sec c.2) (c.1 * 256) W2.drew
      have hnl := HD2.out.ne.1
      have hnw : wr.heap.size ≠ lb := block_ne HB2.out HD2.out.las (by decide)
      have y0 := (World.cell?_of_block (a := ⟨B, 0, none⟩) (hoth B hnl)).trans e0
      have y1 := (World.cell?_of_block (a := ⟨wr.heap.size, 0, none⟩) (hoth _ hnw)).trans e1
      have y2 : (W2.drew.setCells lb (c.1 * 256) (sec c.2)).rangeAt wr.heap.size 1 (sec c.2) := fun q v hv => (World.cell?_of_block (a := ⟨wr.heap.size, 1 + q, none⟩) (hoth _ hnw)).trans (e2 q v hv)
      have Y2 := Lib.hid y2
      clear y2 hoth
      have E2 := Lib.hid e2
      have hsz2 : (sec c.2).toArray.size = 256 := by simp [sec_len, hc1]
      clear hlast hthl e2
      go_wp2_with (first
        | (with_reducible refine wpList_load_mid rfl 170 _ rfl g (k * 257) rfl (wcl c) (.struct fs) HRG.out HFS.out rfl HSEC.out ?_)
        | (with_reducible refine wpList_alloc170 HZZ.out HZC.out rfl rfl ?_)
        | (with_reducible refine wpList_store_mid rfl 170 _ _ rfl wr.heap.size 0 (wcl c).toArray rfl rfl (by rw [hszc]; exact HTH.out) (by rw [hszc]; exact size170) (all_oneCell_toArray (wcl_one _)) ?_; rw [List.toList_toArray, HW2.out])
        | (go_at_call 94; refine Calls.mono HC.out ?_; rintro e wq ⟨rfl, rfl⟩))
      have e2 := E2.out
      refine wp_region_held_drew (S := fun w' => w'.cell? ⟨B, 0, none⟩ = some (.slice (some ⟨lb, 0, none⟩) d.ls.length d.ls.length) ∧ w'.cell? ⟨wr.heap.size, 0, none⟩ = some (.int .i64 (c.1 : Int)) ∧ w'.rangeAt wr.heap.size 1 (sec c.2)) (by kernel_rfl) ⟨e0, e1, e2⟩ (fun hHeld => ?_)
      refine wpAnyH_take (i := 0) (oi := ⟨some 19, _, _, _, _, _⟩) (v := (.pointer (some ⟨B, 0, none⟩))) rfl (by kernel_rfl) (by kernel_rfl) (by kernel_rfl) (fun _ _ _ h => h) (Or.inl ⟨by rfl, ?_⟩) (by assumption) ?_
      · intro w' hSw
        obtain ⟨e0, e1, e2⟩ := hSw
        go_simp
      try simp only [Act.put, List.setIfInBounds_toArray, List.set_cons_zero, List.set_cons_succ]
      refine wpAnyH_take (i := 1) (oi := ⟨some 20, _, _, _, _, _⟩) (v := (.pointer (some ⟨B, 0, none⟩))) rfl (by kernel_rfl) (by kernel_rfl) (by kernel_rfl) (fun _ _ _ h => h) (Or.inl ⟨by rfl, ?_⟩) (by assumption) ?_
      · intro w' hSw
        obtain ⟨e0, e1, e2⟩ := hSw
        go_simp
      try simp only [Act.put, List.setIfInBounds_toArray, List.set_cons_zero, List.set_cons_succ]
      refine wpAnyH_take (i := 2) (oi := ⟨some 21, _, _, _, _, _⟩) (v := (.pointer (some ⟨B, 0, none⟩))) rfl (by kernel_rfl) (by kernel_rfl) (by kernel_rfl) (fun _ _ _ h => h) (Or.inl ⟨by rfl, ?_⟩) (by assumption) ?_
      · intro w' hSw
        obtain ⟨e0, e1, e2⟩ := hSw
        go_simp
      try simp only [Act.put, List.setIfInBounds_toArray, List.set_cons_zero, List.set_cons_succ]
      refine wpAnyH_take (i := 3) (oi := ⟨some 22, _, _, _, _, _⟩) (v := (.slice (some ⟨lb, 0, none⟩) d.ls.length d.ls.length)) rfl (by kernel_rfl) (by kernel_rfl) (by kernel_rfl) (fun _ _ _ h => h) (Or.inl ⟨by rfl, ?_⟩) (by assumption) ?_
      · intro w' hSw
        obtain ⟨e0, e1, e2⟩ := hSw
        go_simp
      try simp only [Act.put, List.setIfInBounds_toArray, List.set_cons_zero, List.set_cons_succ]
      refine wpAnyH_take (i := 4) (oi := ⟨some 23, _, _, _, _, _⟩) (v := (.pointer (some ⟨wr.heap.size, 0, none⟩))) rfl (by kernel_rfl) (by kernel_rfl) (by kernel_rfl) (fun _ _ _ h => h) (Or.inl ⟨by rfl, ?_⟩) (by assumption) ?_
      · intro w' hSw
        obtain ⟨e0, e1, e2⟩ := hSw
        go_simp
      try simp only [Act.put, List.setIfInBounds_toArray, List.set_cons_zero, List.set_cons_succ]
      refine wpAnyH_take (i := 5) (oi := ⟨some 24, _, _, _, _, _⟩) (v := (.int .i64 (c.1 : Int))) rfl (by kernel_rfl) (by kernel_rfl) (by kernel_rfl) (fun _ _ _ h => h) (Or.inl ⟨by rfl, ?_⟩) (by assumption) ?_
      · intro w' hSw
        obtain ⟨e0, e1, e2⟩ := hSw
        go_simp
      try simp only [Act.put, List.setIfInBounds_toArray, List.set_cons_zero, List.set_cons_succ]
      refine wpAnyH_take (i := 6) (oi := ⟨some 25, _, _, _, _, _⟩) (v := (.pointer (some ⟨wr.heap.size, 1, none⟩))) rfl (by kernel_rfl) (by kernel_rfl) (by kernel_rfl) (fun _ _ _ h => h) (Or.inl ⟨by rfl, ?_⟩) (by assumption) ?_
      · intro w' hSw
        obtain ⟨e0, e1, e2⟩ := hSw
        go_simp
      try simp only [Act.put, List.setIfInBounds_toArray, List.set_cons_zero, List.set_cons_succ]
      refine wpAnyH_take (i := 7) (oi := ⟨some 26, _, _, _, _, _⟩) (v := .agg (sec c.2).toArray) rfl (by kernel_rfl) (by kernel_rfl) (by kernel_rfl) (fun _ _ _ h => h) (yieldsIf_load_mid (by rfl) _ _ rfl _ _ rfl _ _ (fun _ hw => hw.2.2) hu168 rfl hsec2) (by assumption) ?_
      try simp only [Act.put, List.setIfInBounds_toArray, List.set_cons_zero, List.set_cons_succ]
      refine wpAnyH_take (i := 8) (oi := ⟨some 27, _, _, _, _, _⟩) (v := (.pointer (some ⟨lb, c.1 * 256, none⟩))) rfl (by kernel_rfl) (by kernel_rfl) (by kernel_rfl) (fun _ _ _ h => h) (Or.inl ⟨by rfl, ?_⟩) (by assumption) ?_
      · intro w' hSw
        obtain ⟨e0, e1, e2⟩ := hSw
        go_simp
      try simp only [Act.put, List.setIfInBounds_toArray, List.set_cons_zero, List.set_cons_succ]
      refine wpAnyH_ready (rs := [9]) (by kernel_rfl) (by simp) ?_
      refine AllReadyH.cons (o := ⟨none, _, _, _, _, _⟩) rfl (fun K hK => ?_) AllReadyH.nil
      rw [if_pos (by rfl)]
      refine wp_store_mid 168 _ _ rfl lb (c.1 * 256) (sec c.2).toArray rfl rfl (by rw [hsz2]; exact HTHL.out) (by rw [hsz2]; exact size168) (all_oneCell_toArray (sec_one _)) ?_
      try simp only [Act.put, List.setIfInBounds_toArray, List.set_cons_zero, List.set_cons_succ]
      refine hK.out _ _ ⟨y0, y1, Y2.out⟩ (fun _ => ?_)
      clear hK K
      refine wpAnyH_done (by kernel_rfl) ?_ _
      go_wp2
      go_roundw
      case rel => exact ⟨k + 1, by omega, by push_cast; rfl, by rw [HST.out, if_pos hbf]; exact HLAST.out.1, HF2.out.trans ((Dfr.ofBelow (drew_b _) (by have := HD2.out.lo.1; have := heap_lt' HD2.out.top; omega)).trans HLAST.out.2)⟩
      case measure => simp [intOf]; omega
    · obtain rfl : k = d.cs.length := by omega
      rw [List.take_length] at hdk
      have HK2 := Lib.hid hdk
      obtain ⟨d0, d1, d2, _, _, _, _, _, fz2⟩ := hdk.cells
      obtain ⟨D, ⟨es, cl, hm, hF, _, _⟩, _⟩ := hdk.seen
      obtain ⟨n1, n2, n3, n4, n5, n6⟩ := hdk.ne
      have hm2 : (wr.setCell ⟨B, 1, none⟩ (.slice none 0 0)).heap[bm]? = some (.map es cl) := (heap_setCell_other _ _ _ _ (fun e => n2 e.symm)).trans hm
      have hclr : ∀ ty, (Builtin.clear_ #[161] ty #[.map (some bm)]).run Try.prog (wr.setCell ⟨B, 1, none⟩ (.slice none 0 0)) = .ok (.tuple #[]) (ChangeMaps.setBlock (wr.setCell ⟨B, 1, none⟩ (.slice none 0 0)) bm (.map #[] cl)) := fun ty => by
        simp [Builtin.clear_, run_underlying und161, MapKept.run_getObj_map hm2, MapKept.run_setObj_map _ hm2, Result.andThen, ChangeMaps.setBlock]
      have f2 : (wr.setCell ⟨B, 1, none⟩ (.slice none 0 0)).cell? ⟨B, 2, none⟩ = some (.map (some bm)) := by
        rw [cell_of_row _ _ _ _ _ _ (heap_setCell_same _ _ _ _ _ _ hdk.top)]; rfl
      clear hdk hF hm
      go_wp2
      go_end0
      have hb5 : ∀ k, k ≠ bm → (ChangeMaps.setBlock (wr.setCell ⟨B, 1, none⟩ (.slice none 0 0)) bm (.map #[] cl)).heap[k]? = (wr.setCell ⟨B, 1, none⟩ (.slice none 0 0)).heap[k]? := fun k hk => ChangeMaps.heap_setBlock_other hm2 _ hk
      refine ⟨rfl, ⟨?_, ?_, World.ownsRow_nil _ _ _ _, ⟨.map [], ⟨#[], cl, ChangeMaps.heap_setBlock_same hm2 _, ⟨by simp, MapKept.stamped_empty cl, by simp⟩, Nat.le_refl _, rfl⟩, seen_nil⟩, ⟨HK2.out.ok.1, fun c hc => by cases hc⟩, HK2.out.lo⟩, HF.out.trans ⟨⟨rfl, rfl, rfl, by simp [ChangeMaps.setBlock], fun k hk => ?_⟩, fun k cs t fr hk a1 a2 a3 => ?_⟩⟩
      · rw [hb5 B n2, heap_setCell_same _ _ _ _ _ _ HK2.out.top]; rfl
      · rw [hb5 lb n3, heap_setCell_other _ _ _ _ (fun e => n1 e.symm)]; exact HK2.out.las
      · have := HK2.out.lo
        rw [hb5 k (by omega), heap_setCell_other _ _ _ _ (show k ≠ B by omega)]
      · have hm3 := HK2.out.seen
        obtain ⟨D', hD', _⟩ := hm3
        rw [hb5 k (fun e => map_not hD' hk e.symm), heap_setCell_other _ _ _ _ (block_ne hk HK2.out.top a1)]

set_option maxRecDepth 100000 in
theorem flush1_any (w : World) (base B lb bm : Nat) (cv : Value) (d : Dsk) (pd : Nat) (h : Dk w base B lb bm cv d) (hc : d.cs.length ≤ 100000000) (cd : w.heap[pd]? = some (.cells #[.pointer (some ⟨B, 0, none⟩)] 92 (0, 0))) :
    Calls Try.prog 93 #[.pointer (some ⟨pd, 0, none⟩)] w fun e w' => e = .returned (.int .u16 0) ∧ Dk w' base B lb bm (.slice none 0 0) { d with ls := settled d.ls d.cs (fun _ => true), cs := [] } ∧ Dfr base w w' := by
  have p2 : w.cell? ⟨pd, 0, none⟩ = some (.pointer (some ⟨B, 0, none⟩)) := (cell_of_row _ _ _ _ _ _ cd).trans rfl
  have HC := Lib.hid (settle94 w base B lb bm cv d h hc)
  clear h cd
  go_enter Try.func93, Try.ntmps93
  go_wp2_with (go_at_call 90; refine Calls.mono HC.out ?_; rintro e w2 ⟨rfl, hd2, hf2⟩; have HD2 := Lib.hid (And.intro hd2 hf2); clear hd2 hf2)
  go_ret
  exact ⟨rfl, HD2.out⟩
/-- A flush. -/
def Dsk.flushed (d : Dsk) : Dsk × Int := if (d.begins).2 = false then ((d.begins).1, 4) else ({ (d.begins).1 with fl := (d.begins).1.fl + 1, ls := settled (d.begins).1.ls (d.begins).1.cs (fun _ => true), cs := [] }, 0)

set_option maxRecDepth 100000 in
theorem dflush_any (w : World) (base B lb bm : Nat) (cv : Value) (d : Dsk) (h : Dk w base B lb bm cv d) (hd : Small d) :
    Calls Try.prog 40 #[.pointer (some ⟨B, 0, none⟩)] w fun e w' => e = .returned (.int .u16 d.flushed.2) ∧ ∃ cv', Dk w' base B lb bm cv' d.flushed.1 ∧ Dfr base w w' := by
  have hsz : base ≤ w.heap.size := by have := h.lo.1; have := heap_lt' h.top; omega
  have hb3 : Below w.heap.size w ((w.alloc (.cells #[.pointer (some ⟨B, 0, none⟩)] 92)).drew) :=
    ((Below.refl _ _).alloc (Nat.le_refl _) _).trans ⟨rfl, rfl, rfl, Nat.le_refl _, fun _ _ => rfl⟩
  have k0 : ((w.alloc (.cells #[.pointer (some ⟨B, 0, none⟩)] 92)).drew).heap[w.heap.size]? = some (.cells #[.pointer (some ⟨B, 0, none⟩)] 92 (0, 0)) := by
    rw [heap_drew, heap_alloc_new]
  have hBl := heap_lt' h.top
  have hk := h.below hb3
  have hbeg := begins_len d
  have hdf : Dfr base w ((w.alloc (.cells #[.pointer (some ⟨B, 0, none⟩)] 92)).drew) := Dfr.ofBelow hb3 hsz
  generalize hw3 : ((w.alloc (.cells #[.pointer (some ⟨B, 0, none⟩)] 92)).drew) = w3 at *
  have hc : Calls Try.prog 88 #[.pointer (some ⟨B, 0, none⟩), .pointer (some ⟨B, 7, none⟩), .func (.func 93) #[] #[.pointer (some ⟨w.heap.size, 0, none⟩)]] w3
      fun e w' => ∃ k, e = .returned (.int .u16 k) ∧ (k = d.flushed.2 ∧ (∃ cv', Dk w' base B lb bm cv' d.flushed.1 ∧ Dfr base w w') ∧ w'.heap[w.heap.size]? = some (.cells #[.pointer (some ⟨B, 0, none⟩)] 92 (0, 0))) := by
    refine op_93 w3 base B lb bm cv d _ (fun k w' => k = d.flushed.2 ∧ (∃ cv', Dk w' base B lb bm cv' d.flushed.1 ∧ Dfr base w w') ∧ w'.heap[w.heap.size]? = some (.cells #[.pointer (some ⟨B, 0, none⟩)] 92 (0, 0))) hk hd.fl hd.trip (fun hb w' hd' hf => ?_) (fun hb w' hd' hf hs' => ?_)
    · unfold Dsk.flushed
      rw [if_pos hb]
      exact ⟨rfl, ⟨cv, hd', hdf.trans hf⟩, (hf.keep _ _ _ _ k0 (by decide) (by decide) (by decide)).trans k0⟩
    · unfold Dsk.flushed
      rw [if_neg (by rw [hb]; simp)]
      refine (flush1_any w' base B lb bm cv _ _ hd' (by rw [hbeg.2]; exact hd.cs) ((hs' _ (by omega)).trans k0)).mono fun e w'' ⟨h1, h2, h3⟩ => ⟨_, h1, rfl, ⟨_, h2, (hdf.trans hf).trans h3⟩, ((hf.trans h3).keep _ _ _ _ k0 (by decide) (by decide) (by decide)).trans k0⟩
  have HC := Lib.hid hc
  have s0 : w3.cell? ⟨w.heap.size, 0, none⟩ = some (.pointer (some ⟨B, 0, none⟩)) := (cell_of_row _ _ _ _ _ _ k0).trans rfl
  clear hc hk hdf hb3 h k0
  subst hw3
  go_enter Try.func40, Try.ntmps40
  go_wp2
  go_region_held3 (fun w' => w'.cell? ⟨w.heap.size, 0, none⟩ = some (.pointer (some ⟨B, 0, none⟩))) (first | assumption) (first
    | (go_at_call 88; refine Calls.mono HC.out ?_; rintro e w4 ⟨k, rfl, hk, ⟨cv', hd4, hf4⟩, hk4⟩; have HF := Lib.hid (And.intro hk (And.intro hd4 hf4)); have z1 : w4.cell? ⟨w.heap.size, 0, none⟩ = some (.pointer (some ⟨B, 0, none⟩)) := (cell_of_row _ _ _ _ _ _ hk4).trans rfl; clear hk hd4 hf4 hk4))
  all_goals go_wp2
  go_ret
  obtain ⟨r1, r2, r3⟩ := HF.out
  subst r1
  exact ⟨rfl, _, r2, r3⟩

theorem slice168' (b o : Nat) (W : World) : (Instr.sliceAt 168 (.pointer (some ⟨b, o, none⟩)) none none none).run Try.prog W = .ok (.slice (some ⟨b, o, none⟩) 256 256) W := by
  obtain ⟨i, hi, _⟩ := info_parts info5
  simp [Instr.sliceAt, run_underlying und168, Instr.sureAddr, Instr.sliceBounds, sizeOf, typeInfo, hi, Result.andThen, Addr.add]
set_option maxHeartbeats 1000000 in
set_option maxRecDepth 100000 in
theorem image_any (w : World) (base B lb bm : Nat) (cv : Value) (d : Dsk) (h : Dk w base B lb bm cv d) (hn : d.ls.length ≤ 16384) :
    Calls Try.prog 41 #[.pointer (some ⟨B, 0, none⟩)] w fun e w' => ∃ v, e = .returned v ∧ w'.ownsRow w.heap.size 5 1 v d.ls.flatten.length (d.ls.flatten.map f8) ∧ d.ls.flatten.length = d.ls.length * 256 ∧ Below w.heap.size w w' := by
  obtain ⟨i0, hi0, hz0, hz1, hz2⟩ := info_parts info5
  obtain ⟨c0, _, _, _, _, _, _, _, _⟩ := h.cells
  have hfl : ∀ k, k ≤ d.ls.length → (d.ls.take k).flatten.length = k * 256 := by
    intro k
    induction k with
    | zero => intro _; rfl
    | succ k ih =>
      intro hk
      rw [List.take_succ_eq_append_getElem (by omega), List.flatten_append, List.length_append, ih (by omega)]
      have := h.ok.1 d.ls[k] (List.getElem_mem _)
      simp
      omega
  have HFL := Lib.hid hfl
  have HD := Lib.hid h
  have hsl := slice168' lb
  clear h hfl
  go_enter Try.func41, Try.ntmps41
  go_wp2_with (at_make; refine wpList_make_own _ rfl _ _ 22 rfl w.heap.size 5 i0 (.int .u8 0) 1 Try.underlying22 hi0 hz0 hz1 .i64 .i64 _ (d.ls.length * 256) rfl rfl (by push_cast; rfl) (by rw [hz2]; omega) (by unfold maxLen; omega) (Nat.le_refl _) ?_; intro w1 hown1 hgrow1; have HO1 := Lib.hid hown1; have HG1 := Lib.hid hgrow1; have c1 : w1.cell? ⟨B, 0, none⟩ = some (.slice (some ⟨lb, 0, none⟩) d.ls.length d.ls.length) := (World.cell?_of_block (a := ⟨B, 0, none⟩) (hgrow1.block B (heap_lt' HD.out.top) (by simp))).trans c0; clear hown1 hgrow1)
  go_loopw [3, 17] (fun o i wr => ∃ k : Nat, k ≤ d.ls.length ∧ i = .int .i64 k ∧ wr.ownsRow w.heap.size 5 1 o (k * 256) ((d.ls.take k).flatten.map f8) ∧ Below w.heap.size w wr) (fun _ i _ => d.ls.length - (intOf i).toNat)
  case atStart => exact ⟨0, Nat.zero_le _, rfl, by simpa using HO1.out, (Below.refl _ _).grown HG1.out (Nat.le_refl _) (fun k hk => by cases hk)⟩
  case round =>
    obtain ⟨k, hk, rfl, hown, hbel⟩ := hrel
    have HO := Lib.hid hown
    have HBL := Lib.hid hbel
    have hs0 := hbel.size
    by_cases hlt : k < d.ls.length
    · have hdk := HD.out.below hbel
      obtain ⟨e0, _, _, _, _, _, _, _, _⟩ := hdk.cells
      have hr := hdk.sector k hlt
      have hl := HD.out.ok.1 _ (List.getElem_mem hlt)
      have htk := List.take_succ_eq_append_getElem hlt
      generalize d.ls[k] = s at *
      have hsc : SlC 0 wr.heap.size f8 wr (some ⟨lb, k * 256, none⟩) 256 s := ⟨by omega, (fun h => by cases h), fun _ => ⟨lb, k * 256, rfl, Nat.zero_le _, heap_lt' hdk.las, fun j hj => hr j _ (by unfold sec; rw [List.getElem?_map, List.getElem?_eq_getElem hj]; rfl)⟩, by omega⟩
      have HSC := Lib.hid hsc
      have HTK := Lib.hid htk
      have i1 : (0 : Int) ≤ (k : Int) ∧ (k : Int) < (d.ls.length : Int) := by omega
      have hsl' := slice168' lb (k * 256)
      clear hsc htk hr hdk hown hbel hsl
      go_wp2_with (at_builtin; refine wpList_append_sl rfl (.tmp 20) (.tmp 27) 22 rfl w.heap.size 5 i0 (.int .u8 0) 1 Try.underlying22 hi0 hz0 hz1 hz2 rfl _ (k * 256) _ rfl HO.out (some ⟨lb, k * 256, none⟩) 256 s (by rw [hl]; rfl) HSC.out (f8_one _) (by unfold maxLen; omega) (by omega) hs0 ?_; intro v1 w2 hown2 hgrow2; have HO2 := Lib.hid hown2; have HG2 := Lib.hid hgrow2; clear hown2 hgrow2)
      go_roundw
      case rel =>
        refine ⟨k + 1, by omega, by push_cast; rfl, ?_, HBL.out.grown HG2.out hs0 (own_row HO.out)⟩
        have h2 := HO2.out
        rw [hl] at h2
        rw [HTK.out, List.flatten_append, List.map_append, Nat.succ_mul]
        simpa using h2
      case measure => simp [intOf]; omega
    · obtain rfl : k = d.ls.length := by omega
      have hfl2 := HFL.out d.ls.length (Nat.le_refl _)
      rw [List.take_length] at hfl2
      go_wp2
      go_ret
      refine ⟨_, rfl, ?_, hfl2, HBL.out⟩
      have h2 := HO.out
      rw [List.take_length] at h2
      rw [hfl2]
      exact h2
end Go.Proofs.Ytnplcfgjidolbaa
end
section
namespace Go.Proofs.Ytnplcfgjidolbaa
open Go.RowKit

/-- What may have turned: a block, two rows. -/
structure Gr3 (B : Nat) (r s : Option Nat) (w w' : World) : Prop where
  os : w'.os = w.os
  tape : w'.tape = w.tape
  output : w'.output = w.output
  size : w.heap.size ≤ w'.heap.size
  block : ∀ k, k < w.heap.size → k ≠ B → some k ≠ r → some k ≠ s → w'.heap[k]? = w.heap[k]?
theorem Gr3.refl (B : Nat) (r s : Option Nat) (w : World) : Gr3 B r s w w := ⟨rfl, rfl, rfl, Nat.le_refl _, fun _ _ _ _ _ => rfl⟩
theorem Gr3.trans {B : Nat} {r s r' s' : Option Nat} {a b c : World} (h : Gr3 B r s a b) (k : Gr3 B r' s' b c) (hr : Anew a r r') (hs : Anew a s s') : Gr3 B r s a c :=
  ⟨k.os.trans h.os, k.tape.trans h.tape, k.output.trans h.output, Nat.le_trans h.size k.size, fun i hi h1 h2 h3 =>
    (k.block i (Nat.lt_of_lt_of_le hi h.size) h1 (fun e => by rcases hr i e.symm with e2 | e2; exact h2 e2.symm; omega) (fun e => by rcases hs i e.symm with e2 | e2; exact h3 e2.symm; omega)).trans (h.block i hi h1 h2 h3)⟩
theorem Gr3.kept {B : Nat} {r s : Option Nat} {w w' : World} (g : Gr3 B r s w w') {base : Nat} {e : TypeId} {size : Nat} {v : Value} {n : Nat} {xs : List Value} (h : w.ownsRow base e size v n xs) (h1 : v.ownBlock ≠ some B) (h2 : ∀ k, r = some k → v.ownBlock ≠ some k) (h3 : ∀ k, s = some k → v.ownBlock ≠ some k) : w'.ownsRow base e size v n xs :=
  own_of_same h (fun k hk => g.block k (h.lt k hk).2 (fun e => h1 (by rw [hk, e])) (fun e => h2 k e.symm hk) (fun e => h3 k e.symm hk))
theorem Gr3.ofBelow {B : Nat} {r s : Option Nat} {w w' : World} (h : Below w.heap.size w w') : Gr3 B r s w w' := ⟨h.os, h.tape, h.output, h.size, fun k hk _ _ _ => h.block k hk⟩
theorem Gr3.below {B C : Nat} {r s : Option Nat} {w w' : World} (h : Gr3 B r s w w') (hB : C ≤ w.heap.size) (hp : C ≤ B) (hr : ∀ k, r = some k → C ≤ k) (hs : ∀ k, s = some k → C ≤ k) : Below C w w' :=
  ⟨h.os, h.tape, h.output, h.size, fun k hk => h.block k (by omega) (by omega) (fun e => by have := hr k e.symm; omega) (fun e => by have := hs k e.symm; omega)⟩

/-- A sector of the reference's: a row of bytes, not at the block av. -/
def Rb (w : World) (base av : Nat) (u : Value) (s : List UInt8) : Prop := w.ownsRow base 5 1 u s.length (s.map f8) ∧ u.ownBlock ≠ some av
/-- The disk's own cells. -/
def rdTop (lv cv : Value) (d : Dsk) : Array Value := #[lv, cv, .bool d.dark, .int .i64 d.trip, .int .i64 d.rd, .int .i64 d.wr, .int .i64 d.fl]
/-- A write of the cache: its sector's number, its bytes. -/
def wr2 (c : Nat × Value) : List Value := [.int .i64 (c.1 : Int), c.2]
/-- The reference's disk at block B. -/
structure RD (w : World) (base B av : Nat) (lv cv : Value) (d : Dsk) : Prop where
  top : w.heap[B]? = some (.cells (rdTop lv cv d) 176 (0, 0))
  las : ∃ vs : List Value, w.ownsRow base 22 1 lv d.ls.length vs ∧ ∀ (i : Nat) (u : Value) (s : List UInt8), vs[i]? = some u → d.ls[i]? = some s → Rb w base av u s
  cache : ∃ us : List Value, us.length = d.cs.length ∧ w.ownsRow base 256 2 cv d.cs.length ((d.cs.map (·.1)).zip us |>.flatMap wr2) ∧ ∀ (i : Nat) (u : Value) (c : Nat × List UInt8), us[i]? = some u → d.cs[i]? = some c → Rb w base av u c.2
  ok : d.ok
  lo : base ≤ B

theorem rd_cells {w : World} {B : Nat} {lv cv : Value} {d : Dsk} (h : w.heap[B]? = some (.cells (rdTop lv cv d) 176 (0, 0))) :
    w.cell? ⟨B, 0, none⟩ = some lv ∧ w.cell? ⟨B, 1, none⟩ = some cv ∧ w.cell? ⟨B, 2, none⟩ = some (.bool d.dark) ∧ w.cell? ⟨B, 3, none⟩ = some (.int .i64 d.trip) ∧ w.cell? ⟨B, 4, none⟩ = some (.int .i64 d.rd) ∧ w.cell? ⟨B, 5, none⟩ = some (.int .i64 d.wr) ∧ w.cell? ⟨B, 6, none⟩ = some (.int .i64 d.fl) ∧ ∀ j, w.frozen? ⟨B, j, none⟩ = false :=
  ⟨(cell_of_row _ _ _ _ _ _ h).trans rfl, (cell_of_row _ _ _ _ _ _ h).trans rfl, (cell_of_row _ _ _ _ _ _ h).trans rfl, (cell_of_row _ _ _ _ _ _ h).trans rfl, (cell_of_row _ _ _ _ _ _ h).trans rfl, (cell_of_row _ _ _ _ _ _ h).trans rfl, (cell_of_row _ _ _ _ _ _ h).trans rfl, fun _ => frozen_of_row _ _ _ _ _ h⟩

section
variable {w w' : World} {base B av : Nat} {lv cv : Value} {d : Dsk}
theorem Rb.same {u : Value} {s : List UInt8} (h : Rb w base av u s) (hs : ∀ k, u.ownBlock = some k → w'.heap[k]? = w.heap[k]?) : Rb w' base av u s := ⟨own_of_same h.1 hs, h.2⟩
/-- Only the disk's own cells are written. -/
theorem RD.retop (h : RD w base B av lv cv d) {dark : Bool} {trip rd wr fl : Int} (hB : w'.heap[B]? = some (.cells (rdTop lv cv { d with dark := dark, trip := trip, rd := rd, wr := wr, fl := fl }) 176 (0, 0))) (hs : ∀ k, k ≠ B → w'.heap[k]? = w.heap[k]?) :
    RD w' base B av lv cv { d with dark := dark, trip := trip, rd := rd, wr := wr, fl := fl } := by
  have ne : ∀ {e : TypeId} {s : Nat} {v : Value} {n : Nat} {xs : List Value}, w.ownsRow base e s v n xs → e ≠ 176 → ∀ k, v.ownBlock = some k → w'.heap[k]? = w.heap[k]? := fun hv he k hk => hs k (fun e1 => by
    obtain ⟨_, ⟨rfl, _⟩ | ⟨g, c, cur, rfl, _, hh, _⟩⟩ := hv
    · cases hk
    · have e2 : g = k := by injection hk
      rw [e2, e1, h.top] at hh
      injection hh with hh
      injection hh with _ hh
      exact he hh.symm)
  obtain ⟨vs, h1, h2⟩ := h.las
  obtain ⟨us, h3, h4, h5⟩ := h.cache
  exact ⟨hB, ⟨vs, own_of_same h1 (ne h1 (by decide)), fun i u s hu hss => (h2 i u s hu hss).same (ne (h2 i u s hu hss).1 (by decide))⟩,
    ⟨us, h3, own_of_same h4 (ne h4 (by decide)), fun i u c hu hc => (h5 i u c hu hc).same (ne (h5 i u c hu hc).1 (by decide))⟩, h.ok, h.lo⟩
theorem retop_gr (hB : ∀ k, k ≠ B → w'.heap[k]? = w.heap[k]?) (h1 : w'.os = w.os) (h2 : w'.tape = w.tape) (h3 : w'.output = w.output) (h4 : w'.heap.size = w.heap.size) (r s : Option Nat) : Gr3 B r s w w' := ⟨h1, h2, h3, Nat.le_of_eq h4.symm, fun k _ hk _ _ => hB k hk⟩

set_option maxRecDepth 100000 in
/-- An operation begins. -/
theorem rbegins_any (h : RD w base B av lv cv d) (ht : -9223372036854775808 ≤ d.trip ∧ d.trip ≤ 9223372036854775807) :
    Calls Try.prog 109 #[.pointer (some ⟨B, 0, none⟩)] w fun e w' => e = .returned (.int .u16 (if d.begins.2 then 0 else 4)) ∧ RD w' base B av lv cv d.begins.1 ∧ Gr3 B lv.ownBlock cv.ownBlock w w' := by
  obtain ⟨c0, c1, c2, c3, c4, c5, c6, fz⟩ := rd_cells h.top
  have HD := Lib.hid h
  obtain ⟨dls, dcs, dark, trip, rd, wr, fl⟩ := d
  dsimp only at c2 c3 c4 c5 c6 ht
  clear h c0 c1
  cases dark with
  | true =>
    go_enter Try.func109, Try.ntmps109
    go_wp2
    go_ret
    exact ⟨rfl, HD.out, Gr3.refl _ _ _ _⟩
  | false =>
    have fr2 := heap_setCell_same w B 2 _ _ (.bool true) HD.out.top
    by_cases h0 : trip = 0
    · subst h0
      go_enter Try.func109, Try.ntmps109
      go_wp2
      go_ret
      have h1 := heap_setCell_same _ B 3 _ _ (.int .i64 (-1)) fr2
      have hoth : ∀ k, k ≠ B → ((w.setCell ⟨B, 2, none⟩ (.bool true)).setCell ⟨B, 3, none⟩ (.int .i64 (-1))).heap[k]? = w.heap[k]? := fun k hk => (heap_setCell_other _ _ _ _ hk).trans (heap_setCell_other _ _ _ _ hk)
      exact ⟨rfl, HD.out.retop (dark := true) (trip := -1) h1 hoth, retop_gr hoth rfl rfl rfl (by simp) _ _⟩
    · have t0 : (trip == 0) = false := by simpa using h0
      by_cases hp : 0 < trip
      · have hb : (Dsk.mk dls dcs false trip rd wr fl).begins = (Dsk.mk dls dcs false (trip - 1) rd wr fl, true) := by
          simp [Dsk.begins, h0, hp]
        rw [hb]
        clear hb
        go_enter Try.func109, Try.ntmps109
        go_wp2
        go_ret
        have h1 := heap_setCell_same w B 3 _ _ (.int .i64 (trip - 1)) HD.out.top
        have hoth : ∀ k, k ≠ B → (w.setCell ⟨B, 3, none⟩ (.int .i64 (trip - 1))).heap[k]? = w.heap[k]? := fun k hk => heap_setCell_other _ _ _ _ hk
        exact ⟨rfl, HD.out.retop (dark := false) (trip := trip - 1) h1 hoth, retop_gr hoth rfl rfl rfl (by simp) _ _⟩
      · have hb : (Dsk.mk dls dcs false trip rd wr fl).begins = (Dsk.mk dls dcs false trip rd wr fl, true) := by
          simp [Dsk.begins, h0, hp]
        rw [hb]
        clear hb
        go_enter Try.func109, Try.ntmps109
        go_wp2
        go_ret
        exact ⟨rfl, HD.out, Gr3.refl _ _ _ _⟩
end
end Go.Proofs.Ytnplcfgjidolbaa
end
