/- The disk's Cut and Pending; SameInts. -/
import Derived.Test.YtnplcfgjidolbaaDiskSet
namespace Go.Proofs.Ytnplcfgjidolbaa
open Go.RowKit Go.Maps

set_option maxRecDepth 100000 in
theorem dcut_any (w : World) (base B lb bm : Nat) (cv : Value) (d : Dsk) (kv : Value) (keep : List Bool) (h : Dk w base B lb bm cv d) (hd : d.cs.length ≤ 100000000) (hkeep : ∀ W, Dfr base w W → Sl 0 W.heap.size fB W kv keep) :
    Calls Try.prog 38 #[.pointer (some ⟨B, 0, none⟩), kv] w fun e w' => e = .returned (.tuple #[]) ∧ Dk w' base B lb bm (.slice none 0 0) { d with ls := settled d.ls d.cs (fun i => keep.getD i false), cs := [], dark := false, trip := -1 } ∧ Dfr base w w' := by
  have hsz : base ≤ w.heap.size := by have := h.lo.1; have := heap_lt' h.top; omega
  obtain ⟨ao, cap, rfl, hsl⟩ := hkeep w (Dfr.refl _ _)
  have b1 : Below w.heap.size w (w.alloc (.cells #[.slice ao keep.length cap] 108)) := (Below.refl _ _).alloc (Nat.le_refl _) _
  have hf1 : Dfr base w (w.alloc (.cells #[.slice ao keep.length cap] 108)) := Dfr.ofBelow b1 hsz
  have HC := Lib.hid (settle91 (w.alloc (.cells #[.slice ao keep.length cap] 108)) base B lb bm cv d w.heap.size (.slice ao keep.length cap) keep (h.below b1) hd (heap_alloc_new _ _) (fun W hW => hkeep W (hf1.trans hW)))
  have HF1 := Lib.hid hf1
  clear h hsl b1 hf1
  go_enter Try.func38, Try.ntmps38
  go_wp2_with (go_at_call 90; refine Calls.mono HC.out ?_; rintro e w2 ⟨rfl, hd2, hf2⟩; obtain ⟨c0, c1, c2, c3, c4, c5, c6, c7, fz⟩ := hd2.cells; have HD2 := Lib.hid hd2; have HF2 := Lib.hid hf2; clear hd2 hf2)
  go_end0
  refine ⟨rfl, HD2.out.retop (dark := false) (trip := -1) (rd := d.rd) (wr := d.wr) (fl := d.fl) (by rw [heap_setCell_same _ _ _ _ _ _ (heap_setCell_same _ _ _ _ _ _ HD2.out.top)]; rfl) (fun k hk => (heap_setCell_other _ _ _ _ hk).trans (heap_setCell_other _ _ _ _ hk)), (HF1.out.trans HF2.out).trans (Dfr.one HD2.out.top (.inl rfl) HD2.out.lo.1 rfl rfl rfl (by simp) (fun k hk => (heap_setCell_other _ _ _ _ hk).trans (heap_setCell_other _ _ _ _ hk)))⟩

theorem grown_alloc' {w w1 : World} {o : Obj} {r : Option Nat} (g : (w.alloc o).grownBy w1 r) : w.grownBy w1 r :=
  ⟨g.os, g.tape, g.output, by have := g.size; simp at this; omega, fun k hk hr => (g.block k (by simp; omega) hr).trans (Below.heap_alloc _ _ _ hk)⟩
theorem Stay.grown' {w w' : World} {v : Value} {n g c : Nat} (h : Stay w w' v n g c) : w.grownBy w' v.ownBlock := by
  rcases h with ⟨rfl, h⟩ | ⟨_, h⟩
  · exact h
  · exact ⟨h.os, h.tape, h.output, h.size, fun k hk _ => h.block k hk (by simp)⟩
/-- An integer's cell. -/
def fN (n : Nat) : Value := .int .i64 (n : Int)
theorem info3 : (Try.prog.info? 3).map (fun i => (i.zero, i.size, i.bytes)) = some (some (.int .i64 0), 1, 8) := by kernel_rfl
theorem und96 : Try.prog.underlying 96 = some (.slice 3) := by kernel_rfl

set_option maxHeartbeats 1000000 in
set_option maxRecDepth 100000 in
theorem pending_any (w : World) (base B lb bm : Nat) (cv : Value) (d : Dsk) (h : Dk w base B lb bm cv d) (hd : d.cs.length ≤ 100000000) :
    Calls Try.prog 35 #[.pointer (some ⟨B, 0, none⟩)] w fun e w' => ∃ v, e = .returned v ∧ w'.ownsRow w.heap.size 3 1 v d.cs.length (d.cs.map fun c => fN c.1) ∧ Below w.heap.size w w' := by
  obtain ⟨c0, c1, c2, c3, c4, c5, c6, c7, fz⟩ := h.cells
  obtain ⟨av, cc, rfl⟩ := own_slice h.cache
  obtain ⟨j0, hj0, hy0, hy1, hy2⟩ := info_parts info3
  obtain ⟨fs, hfs⟩ := struct170
  obtain ⟨i0, hi0, hz⟩ := Option.map_eq_some_iff.1 info170
  simp only [Prod.mk.injEq] at hz
  obtain ⟨z0, hz0, hzs0⟩ := Option.map_eq_some_iff.1 hz.1
  obtain ⟨zc, hzc⟩ : ∃ zc, z0.cells = zc := ⟨_, rfl⟩
  rw [hzc] at hzs0
  have HZC := Lib.hid hzc
  have hzz : (Try.prog.info? 170).map (·.zero) = some (some z0) := by rw [hi0]; simp [hz0]
  have HFS := Lib.hid hfs
  have HZZ := Lib.hid hzz
  have HZS := Lib.hid hzs0
  have HD := Lib.hid h
  clear h hfs hzz hzs0 hi0 hz hz0 hzc c2 c3 c4 c5 c6 c7 c0
  go_enter Try.func35, Try.ntmps35
  go_wp2
  go_loopw [3, 11] (fun o i wr => ∃ k : Nat, k ≤ d.cs.length ∧ i = .int .i64 k ∧ wr.ownsRow w.heap.size 3 1 o k ((d.cs.take k).map fun c => fN c.1) ∧ Below w.heap.size w wr) (fun _ i _ => d.cs.length - (intOf i).toNat)
  case atStart => exact ⟨0, Nat.zero_le _, rfl, by simpa using World.ownsRow_nil _ _ _ _, Below.refl _ _⟩
  case round =>
    obtain ⟨k, hk, rfl, hown, hbel⟩ := hrel
    have HO := Lib.hid hown
    have HBL := Lib.hid hbel
    have hs0 := hbel.size
    by_cases hlt : k < d.cs.length
    · have hdk := HD.out.below hbel
      obtain ⟨g, cap, hcv, _, _⟩ := own_shape hdk.cache (show 0 < d.cs.length by omega)
      injection hcv with hcv1 _ hcv2
      subst hcv1 hcv2
      have hrg := hdk.write rfl k hlt
      have hc256 := hdk.ok.2 _ (List.getElem_mem hlt)
      have htk := List.take_succ_eq_append_getElem hlt
      generalize hc : d.cs[k] = c at *
      obtain ⟨hc1, hc2⟩ := hc256
      have hwl : (wcl c).length = 257 := by rw [wcl_len, hc1]
      have hsec : (Try.prog.info? 170).map (·.size) = some (wcl c).length := by rw [hwl]; exact size170
      have hszc : (wcl c).toArray.size = 257 := by simp [hwl]
      have hb1 : (wr.alloc (.cells zc 170)).heap[wr.heap.size]? = some (.cells zc 170 (0, 0)) := heap_alloc_new _ _
      have hth := there_whole hb1 0 257 (by rw [HZS.out]; omega)
      have hb2 := heap_whole hb1 (wcl c) (by rw [HZS.out, hwl])
      have b1 : Below wr.heap.size wr (wr.alloc (.cells zc 170)) := (Below.refl _ _).alloc (Nat.le_refl _) _
      have b2 : Below wr.heap.size wr ((wr.alloc (.cells zc 170)).setCells wr.heap.size 0 (wcl c)) := by
        obtain ⟨q1, q2, q3, q4⟩ := setCells_rest wr.heap.size (wcl c) 0 (wr.alloc (.cells zc 170))
        exact ⟨q1.trans b1.os, q2.trans b1.tape, q3.trans b1.output, by rw [q4]; exact b1.size, fun k hk => (heap_setCells_other' _ _ _ _ _ (by omega)).trans (b1.block k hk)⟩
      have hown2 := own_of_same hown (fun q hq => b2.block q (hown.lt q hq).2)
      have hlw : (0 : Int) ≤ (k : Int) ∧ (k : Int) < (d.cs.length : Int) := by omega
      have e1 : ((wr.alloc (.cells zc 170)).setCells wr.heap.size 0 (wcl c)).cell? ⟨wr.heap.size, 0, none⟩ = some (.int .i64 (c.1 : Int)) := (cell_of_row _ _ _ _ _ _ hb2).trans (by simp [wcl])
      have HRG := Lib.hid hrg
      have HSEC := Lib.hid hsec
      have HTH := Lib.hid hth
      have HO2 := Lib.hid hown2
      have HB2 := Lib.hid b2
      have HTK := Lib.hid htk
      clear hrg hsec hth hb2 b2 b1 hb1 hown2 hown hdk hbel htk
      generalize hW2 : (wr.alloc (.cells zc 170)).setCells wr.heap.size 0 (wcl c) = W2 at *
      have HW2 := Lib.hid hW2
      have hs2 := HB2.out.size
      clear hW2
      go_wp2_with (first
        | (with_reducible refine wpList_load_mid rfl 170 _ rfl g (k * 257) rfl (wcl c) (.struct fs) HRG.out HFS.out rfl HSEC.out ?_)
        | (with_reducible refine wpList_alloc170 HZZ.out HZC.out rfl rfl ?_)
        | (with_reducible refine wpList_store_mid rfl 170 _ _ rfl wr.heap.size 0 (wcl c).toArray rfl rfl (by rw [hszc]; exact HTH.out) (by rw [hszc]; exact size170) (all_oneCell_toArray (wcl_one _)) ?_; rw [List.toList_toArray, HW2.out])
        | (at_builtin; refine wpList_append_stay _ rfl (.tmp 15) (.tmp 18) 96 rfl w.heap.size 3 j0 (.int .i64 0) 8 und96 hj0 hy0 hy1 hy2 rfl _ k _ rfl (HO2.out.alloc _) ⟨W2.heap.size, 0, none⟩ 1 (.int .i64 (c.1 : Int)) rfl (news_alloc W2 [.int .i64 (c.1 : Int)] 3) rfl (by unfold maxLen; omega) (by omega) (by simp; omega) ?_; intro g2 cap2 w3 hown3 hst3 hgl; have HO3 := Lib.hid hown3; have HS3 := Lib.hid hst3; clear hown3 hst3))
      go_roundw
      case rel =>
        have hg := grown_alloc' HS3.out.grown'
        refine ⟨k + 1, by omega, by push_cast; rfl, ?_, (HBL.out.trans (HB2.out.mono hs0)).grown hg (by omega) (fun q hq => (HO2.out.lt q hq).1)⟩
        rw [HTK.out, List.map_append]
        exact HO3.out
      case measure => simp [intOf]; omega
    · obtain rfl : k = d.cs.length := by omega
      go_wp2
      go_ret
      refine ⟨_, rfl, ?_, HBL.out⟩
      have := HO.out
      rw [List.take_length] at this
      exact this
end Go.Proofs.Ytnplcfgjidolbaa
