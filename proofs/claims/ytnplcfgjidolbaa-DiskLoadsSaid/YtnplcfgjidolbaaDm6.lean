/- The cache is settled: which writes last. The disk's Cut and Pending; SameInts. SameInts. A disk that is not dark and has no trip: its operations. -/
import Derived.Test.YtnplcfgjidolbaaDm5
import Derived.Test.YtnplcfgjidolbaaChecked
import Derived.Deep.QuietTactic
import Derived.BigQuiet
section
namespace Go.Proofs.Ytnplcfgjidolbaa
open Go.RowKit Go.Maps

set_option linter.unusedSimpArgs false
theorem struct170 : ∃ fs, Try.prog.underlying 170 = some (.struct fs) := by
  have h : (match Try.prog.underlying 170 with | some (.struct _) => true | _ => false) = true := by kernel_rfl
  split at h
  · next fs e => exact ⟨fs, e⟩
  · cases h
theorem size170 : (Try.prog.info? 170).map (·.size) = some 257 := by kernel_rfl
theorem wpList_alloc170 {z : Value} {zc : Array Value} (hz : (Try.prog.info? 170).map (·.zero) = some (some z)) (hzc : z.cells = zc) {ops : Array Oper} {rest : List Oper} {o : Oper} {a : Act} {w : World} {Q : Exit → Act → World → Prop} (hgd : o.guard = none) (ho : o.op = .alloc 170)
    (h : wpList Try.prog ops Q rest (a.put o.dst (.pointer (some ⟨w.heap.size, 0, none⟩))) (w.alloc (.cells zc 170))) : wpList Try.prog ops Q (o :: rest) a w := by
  subst hzc
  refine wpList_plain hgd fun K hK => ?_
  obtain ⟨i, hi, hz'⟩ := Option.map_eq_some_iff.1 hz
  unfold Oper.wp execOp
  simp [ho, Instr.alloc, zeroValue, typeInfo, hi, hz', newVar, newRow, Result.andThen]
  exact hK _ _ h
theorem heap_whole {W : World} {b : Nat} {t : TypeId} {cur : Array Value} (hb : W.heap[b]? = some (.cells cur t (0, 0))) (cs : List Value) (hs : cur.size = cs.length) : (W.setCells b 0 cs).heap[b]? = some (.cells cs.toArray t (0, 0)) := by
  rw [heap_setCells W b t cs 0 cur hb (by omega)]
  have : cur.toList.length = cs.length := by simpa using hs
  simp [List.drop_eq_nil_of_le, this]
theorem there_whole {W : World} {b : Nat} {t : TypeId} {cur : Array Value} (hb : W.heap[b]? = some (.cells cur t (0, 0))) (o n : Nat) (hs : o + n ≤ cur.size) : W.there b o n := by
  intro j hj
  refine ⟨?_, frozen_of_row _ _ _ _ _ hb⟩
  rw [cell_of_row _ _ _ _ _ _ hb, Array.getElem?_eq_getElem (by omega)]
  rfl
/-- A sector that lasts is written. -/
theorem Dk.last {W : World} {base B lb bm : Nat} {cv : Value} {d : Dsk} (h : Dk W base B lb bm cv d) (a : Nat) (ha : a < d.ls.length) (s : List UInt8) (hl : s.length = 256) :
    Dk (W.setCells lb (a * 256) (sec s)) base B lb bm cv { d with ls := d.ls.set a s } ∧ Dfr base W (W.setCells lb (a * 256) (sec s)) := by
  obtain ⟨n1, n2, n3, n4, n5, n6⟩ := h.ne
  have h256 : ∀ x ∈ d.ls, (sec x).length = 256 := fun x hx => by rw [sec_len]; exact h.ok.1 x hx
  have hf := flat_len (g := sec) (m := 256) d.ls h256
  have hle : (a + 1) * 256 ≤ d.ls.length * 256 := Nat.mul_le_mul_right _ ha
  have hh := heap_setCells W lb 168 (sec s) (a * 256) _ h.las (by rw [sec_len, hl]; simp only [List.size_toArray, hf]; omega)
  obtain ⟨q1, q2, q3, q4⟩ := setCells_rest lb (sec s) (a * 256) W
  have ho := heap_setCells_other' lb (sec s) (a * 256) W
  obtain ⟨D, h1, h2⟩ := h.seen
  refine ⟨⟨?_, ?_, own_of_same h.cache (fun k hk => ho k (fun e => n5 (by rw [← e]; exact hk))), ⟨D, map_kept h1 (ho bm (fun e => n3 e.symm)), h2⟩, ⟨fun x hx => ?_, fun c hc => ?_⟩, h.lo⟩, Dfr.one h.las (.inr (.inl rfl)) h.lo.2.1 q1 q2 q3 q4 ho⟩
  · rw [ho B n1, h.top]
    simp [dkTop]
  · rw [hh, flat_set d.ls h256 a s ha, sec_len, hl]
  · rcases List.mem_or_eq_of_mem_set hx with h3 | rfl
    · exact h.ok.1 x h3
    · exact hl
  · have := h.ok.2 c hc
    simp only [List.length_set]
    exact this

/-- A bool's cell. -/
def fB (b : Bool) : Value := .bool b
set_option maxRecDepth 100000 in
theorem keep_any (w : World) (pk : Nat) (kv : Value) (keep : List Bool) (hi i : Nat) (hs : Sl 0 hi fB w kv keep) (ck : w.heap[pk]? = some (.cells #[kv] 108 (0, 0))) (hi2 : i ≤ 100000000) :
    Calls Try.prog 91 #[.int .i64 (i : Int), .pointer (some ⟨pk, 0, none⟩)] w fun e w' => e = .returned (.bool (keep.getD i false)) ∧ w = w' := by
  have p1 : w.cell? ⟨pk, 0, none⟩ = some kv := (cell_of_row _ _ _ _ _ _ ck).trans rfl
  obtain ⟨ao, cap, rfl, hsl⟩ := hs
  have hlen := hsl.len
  by_cases hlt : i < keep.length
  · obtain ⟨b, off, rfl, _, _, hcell⟩ := hsl.cells (by intro e; subst e; simp at hlt)
    have hc : w.cell? ⟨b, off + i, none⟩ = some (.bool keep[i]) := hcell i hlt
    have hg : keep.getD i false = keep[i] := by simp [List.getD, hlt]
    have i1 : (0 : Int) ≤ (i : Int) ∧ (i : Int) < (keep.length : Int) := by omega
    rw [hg]
    clear hcell hsl hg
    go_enter Try.func91, Try.ntmps91
    go_wp2
    go_ret
    exact ⟨rfl, rfl⟩
  · have hg : keep.getD i false = false := by simp [List.getD, hlt]
    have i1 : ¬ ((i : Int) < (keep.length : Int)) := by omega
    rw [hg]
    clear hsl hg
    go_enter Try.func91, Try.ntmps91
    go_wp2
    go_ret
    exact ⟨rfl, rfl⟩

set_option maxHeartbeats 1000000 in
set_option maxRecDepth 100000 in
theorem settle91 (w : World) (base B lb bm : Nat) (cv : Value) (d : Dsk) (pk : Nat) (kv : Value) (keep : List Bool) (h : Dk w base B lb bm cv d) (hd : d.cs.length ≤ 100000000) (ck : w.heap[pk]? = some (.cells #[kv] 108 (0, 0))) (hkeep : ∀ W, Dfr base w W → Sl 0 W.heap.size fB W kv keep) :
    Calls Try.prog 90 #[.pointer (some ⟨B, 0, none⟩), .func (.func 91) #[] #[.pointer (some ⟨pk, 0, none⟩)]] w fun e w' => e = .returned (.tuple #[]) ∧ Dk w' base B lb bm (.slice none 0 0) { d with ls := settled d.ls d.cs (fun i => keep.getD i false), cs := [] } ∧ Dfr base w w' := by
  obtain ⟨c0, c1, c2, c3, c4, c5, c6, c7, fz⟩ := h.cells
  obtain ⟨av, cc, rfl⟩ := own_slice h.cache
  obtain ⟨fs, hfs⟩ := struct170
  obtain ⟨i0, hi0, hz⟩ := Option.map_eq_some_iff.1 info170
  simp only [Prod.mk.injEq] at hz
  obtain ⟨z0, hz0, hzs0⟩ := Option.map_eq_some_iff.1 hz.1
  obtain ⟨zc, hzc⟩ : ∃ zc, z0.cells = zc := ⟨_, rfl⟩
  rw [hzc] at hzs0
  have HZC := Lib.hid hzc
  have hzz : (Try.prog.info? 170).map (·.zero) = some (some z0) := by rw [hi0]; simp [hz0]
  have HFS := Lib.hid hfs
  have HZZ := Lib.hid hzz
  have HZS := Lib.hid hzs0
  have HD := Lib.hid h
  have CK := Lib.hid ck
  clear ck h hfs hzz hzs0 hi0 hz hz0 hzc c2 c3 c4 c5 c6 c7 c0
  go_enter Try.func90, Try.ntmps90
  go_wp2
  go_loopw [11] (fun i wr => ∃ k : Nat, k ≤ d.cs.length ∧ i = .int .i64 k ∧ Dk wr base B lb bm (.slice av d.cs.length cc) { d with ls := settled d.ls (d.cs.take k) (fun i => keep.getD i false) } ∧ Dfr base w wr) (fun i _ => d.cs.length - (intOf i).toNat)
  case atStart => exact ⟨0, Nat.zero_le _, rfl, by simpa [settled] using HD.out, Dfr.refl _ _⟩
  case round =>
    obtain ⟨k, hk, rfl, hdk, hfr⟩ := hrel
    have HK := Lib.hid hdk
    have HF := Lib.hid hfr
    by_cases hlt : k < d.cs.length
    · obtain ⟨g, cap, hcv, _, _⟩ := own_shape hdk.cache (show 0 < d.cs.length by omega)
      injection hcv with hcv1 _ hcv2
      subst hcv1 hcv2
      have hrg := hdk.write rfl k hlt
      have hst := settled_take d.ls d.cs (fun i => keep.getD i false) k hlt
      have hc256 := hdk.ok.2 _ (List.getElem_mem hlt)
      have hsl := settled_len d.ls (d.cs.take k) (fun i => keep.getD i false)
      simp only [hsl] at hc256
      obtain ⟨d0, _, _, _, _, _, _, _, _⟩ := hdk.cells
      simp only [hsl] at d0
      generalize hc : d.cs[k] = c at *
      obtain ⟨hc1, hc2⟩ := hc256
      have hwl : (wcl c).length = 257 := by rw [wcl_len, hc1]
      have hsec : (Try.prog.info? 170).map (·.size) = some (wcl c).length := by rw [hwl]; exact size170
      have hszc : (wcl c).toArray.size = 257 := by simp [hwl]
      have b1 : Below wr.heap.size wr (wr.alloc (.cells zc 170)) := (Below.refl _ _).alloc (Nat.le_refl _) _
      have hb1 : (wr.alloc (.cells zc 170)).heap[wr.heap.size]? = some (.cells zc 170 (0, 0)) := heap_alloc_new _ _
      have hth := there_whole hb1 0 257 (by rw [HZS.out]; omega)
      have hb2 := heap_whole hb1 (wcl c) (by rw [HZS.out, hwl])
      have b2 : Below wr.heap.size wr ((wr.alloc (.cells zc 170)).setCells wr.heap.size 0 (wcl c)) := by
        obtain ⟨q1, q2, q3, q4⟩ := setCells_rest wr.heap.size (wcl c) 0 (wr.alloc (.cells zc 170))
        exact ⟨q1.trans b1.os, q2.trans b1.tape, q3.trans b1.output, by rw [q4]; exact b1.size, fun k hk => (heap_setCells_other' _ _ _ _ _ (by omega)).trans (b1.block k hk)⟩
      have hBl := heap_lt' hdk.top
      have hsz : base ≤ wr.heap.size := by have := hdk.lo.1; omega
      have hd2 := hdk.below b2
      have hf2 := hfr.trans (Dfr.ofBelow b2 hsz)
      have hlw : (0 : Int) ≤ (k : Int) ∧ (k : Int) < (d.cs.length : Int) := by omega
      have HRG := Lib.hid hrg
      have HSEC := Lib.hid hsec
      have HTH := Lib.hid hth
      have HB2 := Lib.hid hb2
      have HD2 := Lib.hid hd2
      have HF2 := Lib.hid hf2
      have HST := Lib.hid hst
      have hc0 := keep_any _ pk kv keep _ k (hkeep _ hf2) ((hf2.keep _ _ _ _ CK.out (by decide) (by decide) (by decide)).trans CK.out) (by omega)
      clear hdk hfr hrg hsec hth hb2 hd2 hf2 b1 b2 hb1 hst
      generalize hW2 : (wr.alloc (.cells zc 170)).setCells wr.heap.size 0 (wcl c) = W2 at *
      have HW2 := Lib.hid hW2
      clear hW2
      rcases hbf : (keep.getD k false) with _ | _
      · rw [hbf] at hc0
        have HC := Lib.hid hc0
        clear hc0
        go_wp2_with (first
          | (with_reducible refine wpList_load_mid rfl 170 _ rfl g (k * 257) rfl (wcl c) (.struct fs) HRG.out HFS.out rfl HSEC.out ?_)
          | (with_reducible refine wpList_alloc170 HZZ.out HZC.out rfl rfl ?_)
          | (with_reducible refine wpList_store_mid rfl 170 _ _ rfl wr.heap.size 0 (wcl c).toArray rfl rfl (by rw [hszc]; exact HTH.out) (by rw [hszc]; exact size170) (all_oneCell_toArray (wcl_one _)) ?_; rw [List.toList_toArray, HW2.out])
          | (go_at_call 91; refine Calls.mono HC.out ?_; rintro e wq ⟨rfl, rfl⟩))
        go_roundw
        case rel => exact ⟨k + 1, by omega, by push_cast; rfl, by rw [HST.out, if_neg (by rw [hbf]; decide)]; exact HD2.out, HF2.out⟩
        case measure => simp [intOf]; omega
      · rw [hbf] at hc0
        have HC := Lib.hid hc0
        clear hc0
        obtain ⟨e0, _, _, _, _, _, _, _, _⟩ := (HD2.out.below (drew_b _)).cells
        simp only [hsl] at e0
        have e1 : W2.drew.cell? ⟨wr.heap.size, 0, none⟩ = some (.int .i64 (c.1 : Int)) := (cell_of_row _ _ _ _ _ _ (show W2.drew.heap[wr.heap.size]? = _ from HB2.out)).trans (by simp [wcl])
        have e2 : W2.drew.rangeAt wr.heap.size 1 (sec c.2) := fun q v hv => by
          rw [cell_of_row _ _ _ _ _ _ (show W2.drew.heap[wr.heap.size]? = _ from HB2.out)]
          simp [wcl, hv, Nat.add_comm 1 q]
        have hu168 := und168
        have hsec2 : (Try.prog.info? 168).map (·.size) = some (sec c.2).length := by rw [sec_len, hc1]; exact size168
        have i3 : (0 : Int) ≤ (c.1 : Int) ∧ (c.1 : Int) < (d.ls.length : Int) := by omega
        have hlast := (HD2.out.below (drew_b _)).last c.1 (by simp only [hsl]; exact hc2) c.2 hc1
        have HLAST := Lib.hid hlast
        have hthl : W2.drew.there lb (c.1 * 256) 256 := there_whole (HD2.out.below (drew_b _)).las _ _ (by
          have h256 := flat_len (g := sec) (m := 256) (settled d.ls (d.cs.take k) (fun i => keep.getD i false)) (fun x hx => by rw [sec_len]; exact HD2.out.ok.1 x hx)
          simp only [List.size_toArray, h256, hsl]
          have := Nat.mul_le_mul_right 256 (show c.1 + 1 ≤ d.ls.length from hc2)
          omega)
        have HTHL := Lib.hid hthl
        have hoth := heap_setCells_other' lb (sec c.2) (c.1 * 256) W2.drew
        have hnl := HD2.out.ne.1
        have hnw : wr.heap.size ≠ lb := block_ne HB2.out HD2.out.las (by decide)
        have y0 := (World.cell?_of_block (a := ⟨B, 0, none⟩) (hoth B hnl)).trans e0
        have y1 := (World.cell?_of_block (a := ⟨wr.heap.size, 0, none⟩) (hoth _ hnw)).trans e1
        have y2 : (W2.drew.setCells lb (c.1 * 256) (sec c.2)).rangeAt wr.heap.size 1 (sec c.2) := fun q v hv => (World.cell?_of_block (a := ⟨wr.heap.size, 1 + q, none⟩) (hoth _ hnw)).trans (e2 q v hv)
        have Y2 := Lib.hid y2
        clear y2 hoth
        have E2 := Lib.hid e2
        have hsz2 : (sec c.2).toArray.size = 256 := by simp [sec_len, hc1]
        clear hlast hthl e2
        go_wp2_with (first
          | (with_reducible refine wpList_load_mid rfl 170 _ rfl g (k * 257) rfl (wcl c) (.struct fs) HRG.out HFS.out rfl HSEC.out ?_)
          | (with_reducible refine wpList_alloc170 HZZ.out HZC.out rfl rfl ?_)
          | (with_reducible refine wpList_store_mid rfl 170 _ _ rfl wr.heap.size 0 (wcl c).toArray rfl rfl (by rw [hszc]; exact HTH.out) (by rw [hszc]; exact size170) (all_oneCell_toArray (wcl_one _)) ?_; rw [List.toList_toArray, HW2.out])
          | (go_at_call 91; refine Calls.mono HC.out ?_; rintro e wq ⟨rfl, rfl⟩))
        have e2 := E2.out
        refine wp_region_held_drew (S := fun w' => w'.cell? ⟨B, 0, none⟩ = some (.slice (some ⟨lb, 0, none⟩) d.ls.length d.ls.length) ∧ w'.cell? ⟨wr.heap.size, 0, none⟩ = some (.int .i64 (c.1 : Int)) ∧ w'.rangeAt wr.heap.size 1 (sec c.2)) (by kernel_rfl) ⟨e0, e1, e2⟩ (fun hHeld => ?_)
        refine wpAnyH_take (i := 0) (oi := ⟨some 19, _, _, _, _, _⟩) (v := (.pointer (some ⟨B, 0, none⟩))) rfl (by kernel_rfl) (by kernel_rfl) (by kernel_rfl) (fun _ _ _ h => h) (Or.inl ⟨by rfl, ?_⟩) (by assumption) ?_
        · intro w' hSw
          obtain ⟨e0, e1, e2⟩ := hSw
          go_simp
        try simp only [Act.put, List.setIfInBounds_toArray, List.set_cons_zero, List.set_cons_succ]
        refine wpAnyH_take (i := 1) (oi := ⟨some 20, _, _, _, _, _⟩) (v := (.pointer (some ⟨B, 0, none⟩))) rfl (by kernel_rfl) (by kernel_rfl) (by kernel_rfl) (fun _ _ _ h => h) (Or.inl ⟨by rfl, ?_⟩) (by assumption) ?_
        · intro w' hSw
          obtain ⟨e0, e1, e2⟩ := hSw
          go_simp
        try simp only [Act.put, List.setIfInBounds_toArray, List.set_cons_zero, List.set_cons_succ]
        refine wpAnyH_take (i := 2) (oi := ⟨some 21, _, _, _, _, _⟩) (v := (.pointer (some ⟨B, 0, none⟩))) rfl (by kernel_rfl) (by kernel_rfl) (by kernel_rfl) (fun _ _ _ h => h) (Or.inl ⟨by rfl, ?_⟩) (by assumption) ?_
        · intro w' hSw
          obtain ⟨e0, e1, e2⟩ := hSw
          go_simp
        try simp only [Act.put, List.setIfInBounds_toArray, List.set_cons_zero, List.set_cons_succ]
        refine wpAnyH_take (i := 3) (oi := ⟨some 22, _, _, _, _, _⟩) (v := (.slice (some ⟨lb, 0, none⟩) d.ls.length d.ls.length)) rfl (by kernel_rfl) (by kernel_rfl) (by kernel_rfl) (fun _ _ _ h => h) (Or.inl ⟨by rfl, ?_⟩) (by assumption) ?_
        · intro w' hSw
          obtain ⟨e0, e1, e2⟩ := hSw
          go_simp
        try simp only [Act.put, List.setIfInBounds_toArray, List.set_cons_zero, List.set_cons_succ]
        refine wpAnyH_take (i := 4) (oi := ⟨some 23, _, _, _, _, _⟩) (v := (.pointer (some ⟨wr.heap.size, 0, none⟩))) rfl (by kernel_rfl) (by kernel_rfl) (by kernel_rfl) (fun _ _ _ h => h) (Or.inl ⟨by rfl, ?_⟩) (by assumption) ?_
        · intro w' hSw
          obtain ⟨e0, e1, e2⟩ := hSw
          go_simp
        try simp only [Act.put, List.setIfInBounds_toArray, List.set_cons_zero, List.set_cons_succ]
        refine wpAnyH_take (i := 5) (oi := ⟨some 24, _, _, _, _, _⟩) (v := (.int .i64 (c.1 : Int))) rfl (by kernel_rfl) (by kernel_rfl) (by kernel_rfl) (fun _ _ _ h => h) (Or.inl ⟨by rfl, ?_⟩) (by assumption) ?_
        · intro w' hSw
          obtain ⟨e0, e1, e2⟩ := hSw
          go_simp
        try simp only [Act.put, List.setIfInBounds_toArray, List.set_cons_zero, List.set_cons_succ]
        refine wpAnyH_take (i := 6) (oi := ⟨some 25, _, _, _, _, _⟩) (v := (.pointer (some ⟨wr.heap.size, 1, none⟩))) rfl (by kernel_rfl) (by kernel_rfl) (by kernel_rfl) (fun _ _ _ h => h) (Or.inl ⟨by rfl, ?_⟩) (by assumption) ?_
        · intro w' hSw
          obtain ⟨e0, e1, e2⟩ := hSw
          go_simp
        try simp only [Act.put, List.setIfInBounds_toArray, List.set_cons_zero, List.set_cons_succ]
        refine wpAnyH_take (i := 7) (oi := ⟨some 26, _, _, _, _, _⟩) (v := .agg (sec c.2).toArray) rfl (by kernel_rfl) (by kernel_rfl) (by kernel_rfl) (fun _ _ _ h => h) (yieldsIf_load_mid (by rfl) _ _ rfl _ _ rfl _ _ (fun _ hw => hw.2.2) hu168 rfl hsec2) (by assumption) ?_
        try simp only [Act.put, List.setIfInBounds_toArray, List.set_cons_zero, List.set_cons_succ]
        refine wpAnyH_take (i := 8) (oi := ⟨some 27, _, _, _, _, _⟩) (v := (.pointer (some ⟨lb, c.1 * 256, none⟩))) rfl (by kernel_rfl) (by kernel_rfl) (by kernel_rfl) (fun _ _ _ h => h) (Or.inl ⟨by rfl, ?_⟩) (by assumption) ?_
        · intro w' hSw
          obtain ⟨e0, e1, e2⟩ := hSw
          go_simp
        try simp only [Act.put, List.setIfInBounds_toArray, List.set_cons_zero, List.set_cons_succ]
        refine wpAnyH_ready (rs := [9]) (by kernel_rfl) (by simp) ?_
        refine AllReadyH.cons (o := ⟨none, _, _, _, _, _⟩) rfl (fun K hK => ?_) AllReadyH.nil
        rw [if_pos (by rfl)]
        refine wp_store_mid 168 _ _ rfl lb (c.1 * 256) (sec c.2).toArray rfl rfl (by rw [hsz2]; exact HTHL.out) (by rw [hsz2]; exact size168) (all_oneCell_toArray (sec_one _)) ?_
        try simp only [Act.put, List.setIfInBounds_toArray, List.set_cons_zero, List.set_cons_succ]
        refine hK.out _ _ ⟨y0, y1, Y2.out⟩ (fun _ => ?_)
        clear hK K
        refine wpAnyH_done (by kernel_rfl) ?_ _
        go_wp2
        go_roundw
        case rel => exact ⟨k + 1, by omega, by push_cast; rfl, by rw [HST.out, if_pos hbf]; exact HLAST.out.1, HF2.out.trans ((Dfr.ofBelow (drew_b _) (by have := HD2.out.lo.1; have := heap_lt' HD2.out.top; omega)).trans HLAST.out.2)⟩
        case measure => simp [intOf]; omega
    · obtain rfl : k = d.cs.length := by omega
      rw [List.take_length] at hdk
      have HK2 := Lib.hid hdk
      obtain ⟨d0, d1, d2, _, _, _, _, _, fz2⟩ := hdk.cells
      obtain ⟨D, ⟨es, cl, hm, hF, _, _⟩, _⟩ := hdk.seen
      obtain ⟨n1, n2, n3, n4, n5, n6⟩ := hdk.ne
      have hm2 : (wr.setCell ⟨B, 1, none⟩ (.slice none 0 0)).heap[bm]? = some (.map es cl) := (heap_setCell_other _ _ _ _ (fun e => n2 e.symm)).trans hm
      have hclr : ∀ ty, (Builtin.clear_ #[161] ty #[.map (some bm)]).run Try.prog (wr.setCell ⟨B, 1, none⟩ (.slice none 0 0)) = .ok (.tuple #[]) (ChangeMaps.setBlock (wr.setCell ⟨B, 1, none⟩ (.slice none 0 0)) bm (.map #[] cl)) := fun ty => by
        simp [Builtin.clear_, run_underlying und161, MapKept.run_getObj_map hm2, MapKept.run_setObj_map _ hm2, Result.andThen, ChangeMaps.setBlock]
      have f2 : (wr.setCell ⟨B, 1, none⟩ (.slice none 0 0)).cell? ⟨B, 2, none⟩ = some (.map (some bm)) := by
        rw [cell_of_row _ _ _ _ _ _ (heap_setCell_same _ _ _ _ _ _ hdk.top)]; rfl
      clear hdk hF hm
      go_wp2
      go_end0
      have hb5 : ∀ k, k ≠ bm → (ChangeMaps.setBlock (wr.setCell ⟨B, 1, none⟩ (.slice none 0 0)) bm (.map #[] cl)).heap[k]? = (wr.setCell ⟨B, 1, none⟩ (.slice none 0 0)).heap[k]? := fun k hk => ChangeMaps.heap_setBlock_other hm2 _ hk
      refine ⟨rfl, ⟨?_, ?_, World.ownsRow_nil _ _ _ _, ⟨.map [], ⟨#[], cl, ChangeMaps.heap_setBlock_same hm2 _, ⟨by simp, MapKept.stamped_empty cl, by simp⟩, Nat.le_refl _, rfl⟩, seen_nil⟩, ⟨HK2.out.ok.1, fun c hc => by cases hc⟩, HK2.out.lo⟩, HF.out.trans ⟨⟨rfl, rfl, rfl, by simp [ChangeMaps.setBlock], fun k hk => ?_⟩, fun k cs t fr hk a1 a2 a3 => ?_⟩⟩
      · rw [hb5 B n2, heap_setCell_same _ _ _ _ _ _ HK2.out.top]; rfl
      · rw [hb5 lb n3, heap_setCell_other _ _ _ _ (fun e => n1 e.symm)]; exact HK2.out.las
      · have := HK2.out.lo
        rw [hb5 k (by omega), heap_setCell_other _ _ _ _ (show k ≠ B by omega)]
      · have hm3 := HK2.out.seen
        obtain ⟨D', hD', _⟩ := hm3
        rw [hb5 k (fun e => map_not hD' hk e.symm), heap_setCell_other _ _ _ _ (block_ne hk HK2.out.top a1)]
end Go.Proofs.Ytnplcfgjidolbaa
end
section
namespace Go.Proofs.Ytnplcfgjidolbaa
open Go.RowKit Go.Maps

set_option maxRecDepth 100000 in
theorem dcut_any (w : World) (base B lb bm : Nat) (cv : Value) (d : Dsk) (kv : Value) (keep : List Bool) (h : Dk w base B lb bm cv d) (hd : d.cs.length ≤ 100000000) (hkeep : ∀ W, Dfr base w W → Sl 0 W.heap.size fB W kv keep) :
    Calls Try.prog 38 #[.pointer (some ⟨B, 0, none⟩), kv] w fun e w' => e = .returned (.tuple #[]) ∧ Dk w' base B lb bm (.slice none 0 0) { d with ls := settled d.ls d.cs (fun i => keep.getD i false), cs := [], dark := false, trip := -1 } ∧ Dfr base w w' := by
  have hsz : base ≤ w.heap.size := by have := h.lo.1; have := heap_lt' h.top; omega
  obtain ⟨ao, cap, rfl, hsl⟩ := hkeep w (Dfr.refl _ _)
  have b1 : Below w.heap.size w (w.alloc (.cells #[.slice ao keep.length cap] 108)) := (Below.refl _ _).alloc (Nat.le_refl _) _
  have hf1 : Dfr base w (w.alloc (.cells #[.slice ao keep.length cap] 108)) := Dfr.ofBelow b1 hsz
  have HC := Lib.hid (settle91 (w.alloc (.cells #[.slice ao keep.length cap] 108)) base B lb bm cv d w.heap.size (.slice ao keep.length cap) keep (h.below b1) hd (heap_alloc_new _ _) (fun W hW => hkeep W (hf1.trans hW)))
  have HF1 := Lib.hid hf1
  clear h hsl b1 hf1
  go_enter Try.func38, Try.ntmps38
  go_wp2_with (go_at_call 90; refine Calls.mono HC.out ?_; rintro e w2 ⟨rfl, hd2, hf2⟩; obtain ⟨c0, c1, c2, c3, c4, c5, c6, c7, fz⟩ := hd2.cells; have HD2 := Lib.hid hd2; have HF2 := Lib.hid hf2; clear hd2 hf2)
  go_end0
  refine ⟨rfl, HD2.out.retop (dark := false) (trip := -1) (rd := d.rd) (wr := d.wr) (fl := d.fl) (by rw [heap_setCell_same _ _ _ _ _ _ (heap_setCell_same _ _ _ _ _ _ HD2.out.top)]; rfl) (fun k hk => (heap_setCell_other _ _ _ _ hk).trans (heap_setCell_other _ _ _ _ hk)), (HF1.out.trans HF2.out).trans (Dfr.one HD2.out.top (.inl rfl) HD2.out.lo.1 rfl rfl rfl (by simp) (fun k hk => (heap_setCell_other _ _ _ _ hk).trans (heap_setCell_other _ _ _ _ hk)))⟩

theorem grown_alloc' {w w1 : World} {o : Obj} {r : Option Nat} (g : (w.alloc o).grownBy w1 r) : w.grownBy w1 r :=
  ⟨g.os, g.tape, g.output, by have := g.size; simp at this; omega, fun k hk hr => (g.block k (by simp; omega) hr).trans (Below.heap_alloc _ _ _ hk)⟩
theorem Stay.grown' {w w' : World} {v : Value} {n g c : Nat} (h : Stay w w' v n g c) : w.grownBy w' v.ownBlock := by
  rcases h with ⟨rfl, h⟩ | ⟨_, h⟩
  · exact h
  · exact ⟨h.os, h.tape, h.output, h.size, fun k hk _ => h.block k hk (by simp)⟩
/-- An integer's cell. -/
def fN (n : Nat) : Value := .int .i64 (n : Int)
theorem info3 : (Try.prog.info? 3).map (fun i => (i.zero, i.size, i.bytes)) = some (some (.int .i64 0), 1, 8) := by kernel_rfl
theorem und96 : Try.prog.underlying 96 = some (.slice 3) := by kernel_rfl

set_option maxHeartbeats 1000000 in
set_option maxRecDepth 100000 in
theorem pending_any (w : World) (base B lb bm : Nat) (cv : Value) (d : Dsk) (h : Dk w base B lb bm cv d) (hd : d.cs.length ≤ 100000000) :
    Calls Try.prog 35 #[.pointer (some ⟨B, 0, none⟩)] w fun e w' => ∃ v, e = .returned v ∧ w'.ownsRow w.heap.size 3 1 v d.cs.length (d.cs.map fun c => fN c.1) ∧ Below w.heap.size w w' := by
  obtain ⟨c0, c1, c2, c3, c4, c5, c6, c7, fz⟩ := h.cells
  obtain ⟨av, cc, rfl⟩ := own_slice h.cache
  obtain ⟨j0, hj0, hy0, hy1, hy2⟩ := info_parts info3
  obtain ⟨fs, hfs⟩ := struct170
  obtain ⟨i0, hi0, hz⟩ := Option.map_eq_some_iff.1 info170
  simp only [Prod.mk.injEq] at hz
  obtain ⟨z0, hz0, hzs0⟩ := Option.map_eq_some_iff.1 hz.1
  obtain ⟨zc, hzc⟩ : ∃ zc, z0.cells = zc := ⟨_, rfl⟩
  rw [hzc] at hzs0
  have HZC := Lib.hid hzc
  have hzz : (Try.prog.info? 170).map (·.zero) = some (some z0) := by rw [hi0]; simp [hz0]
  have HFS := Lib.hid hfs
  have HZZ := Lib.hid hzz
  have HZS := Lib.hid hzs0
  have HD := Lib.hid h
  clear h hfs hzz hzs0 hi0 hz hz0 hzc c2 c3 c4 c5 c6 c7 c0
  go_enter Try.func35, Try.ntmps35
  go_wp2
  go_loopw [3, 11] (fun o i wr => ∃ k : Nat, k ≤ d.cs.length ∧ i = .int .i64 k ∧ wr.ownsRow w.heap.size 3 1 o k ((d.cs.take k).map fun c => fN c.1) ∧ Below w.heap.size w wr) (fun _ i _ => d.cs.length - (intOf i).toNat)
  case atStart => exact ⟨0, Nat.zero_le _, rfl, by simpa using World.ownsRow_nil _ _ _ _, Below.refl _ _⟩
  case round =>
    obtain ⟨k, hk, rfl, hown, hbel⟩ := hrel
    have HO := Lib.hid hown
    have HBL := Lib.hid hbel
    have hs0 := hbel.size
    by_cases hlt : k < d.cs.length
    · have hdk := HD.out.below hbel
      obtain ⟨g, cap, hcv, _, _⟩ := own_shape hdk.cache (show 0 < d.cs.length by omega)
      injection hcv with hcv1 _ hcv2
      subst hcv1 hcv2
      have hrg := hdk.write rfl k hlt
      have hc256 := hdk.ok.2 _ (List.getElem_mem hlt)
      have htk := List.take_succ_eq_append_getElem hlt
      generalize hc : d.cs[k] = c at *
      obtain ⟨hc1, hc2⟩ := hc256
      have hwl : (wcl c).length = 257 := by rw [wcl_len, hc1]
      have hsec : (Try.prog.info? 170).map (·.size) = some (wcl c).length := by rw [hwl]; exact size170
      have hszc : (wcl c).toArray.size = 257 := by simp [hwl]
      have hb1 : (wr.alloc (.cells zc 170)).heap[wr.heap.size]? = some (.cells zc 170 (0, 0)) := heap_alloc_new _ _
      have hth := there_whole hb1 0 257 (by rw [HZS.out]; omega)
      have hb2 := heap_whole hb1 (wcl c) (by rw [HZS.out, hwl])
      have b1 : Below wr.heap.size wr (wr.alloc (.cells zc 170)) := (Below.refl _ _).alloc (Nat.le_refl _) _
      have b2 : Below wr.heap.size wr ((wr.alloc (.cells zc 170)).setCells wr.heap.size 0 (wcl c)) := by
        obtain ⟨q1, q2, q3, q4⟩ := setCells_rest wr.heap.size (wcl c) 0 (wr.alloc (.cells zc 170))
        exact ⟨q1.trans b1.os, q2.trans b1.tape, q3.trans b1.output, by rw [q4]; exact b1.size, fun k hk => (heap_setCells_other' _ _ _ _ _ (by omega)).trans (b1.block k hk)⟩
      have hown2 := own_of_same hown (fun q hq => b2.block q (hown.lt q hq).2)
      have hlw : (0 : Int) ≤ (k : Int) ∧ (k : Int) < (d.cs.length : Int) := by omega
      have e1 : ((wr.alloc (.cells zc 170)).setCells wr.heap.size 0 (wcl c)).cell? ⟨wr.heap.size, 0, none⟩ = some (.int .i64 (c.1 : Int)) := (cell_of_row _ _ _ _ _ _ hb2).trans (by simp [wcl])
      have HRG := Lib.hid hrg
      have HSEC := Lib.hid hsec
      have HTH := Lib.hid hth
      have HO2 := Lib.hid hown2
      have HB2 := Lib.hid b2
      have HTK := Lib.hid htk
      clear hrg hsec hth hb2 b2 b1 hb1 hown2 hown hdk hbel htk
      generalize hW2 : (wr.alloc (.cells zc 170)).setCells wr.heap.size 0 (wcl c) = W2 at *
      have HW2 := Lib.hid hW2
      have hs2 := HB2.out.size
      clear hW2
      go_wp2_with (first
        | (with_reducible refine wpList_load_mid rfl 170 _ rfl g (k * 257) rfl (wcl c) (.struct fs) HRG.out HFS.out rfl HSEC.out ?_)
        | (with_reducible refine wpList_alloc170 HZZ.out HZC.out rfl rfl ?_)
        | (with_reducible refine wpList_store_mid rfl 170 _ _ rfl wr.heap.size 0 (wcl c).toArray rfl rfl (by rw [hszc]; exact HTH.out) (by rw [hszc]; exact size170) (all_oneCell_toArray (wcl_one _)) ?_; rw [List.toList_toArray, HW2.out])
        | (at_builtin; refine wpList_append_stay _ rfl (.tmp 15) (.tmp 18) 96 rfl w.heap.size 3 j0 (.int .i64 0) 8 und96 hj0 hy0 hy1 hy2 rfl _ k _ rfl (HO2.out.alloc _) ⟨W2.heap.size, 0, none⟩ 1 (.int .i64 (c.1 : Int)) rfl (news_alloc W2 [.int .i64 (c.1 : Int)] 3) rfl (by unfold maxLen; omega) (by omega) (by simp; omega) ?_; intro g2 cap2 w3 hown3 hst3 hgl; have HO3 := Lib.hid hown3; have HS3 := Lib.hid hst3; clear hown3 hst3))
      go_roundw
      case rel =>
        have hg := grown_alloc' HS3.out.grown'
        refine ⟨k + 1, by omega, by push_cast; rfl, ?_, (HBL.out.trans (HB2.out.mono hs0)).grown hg (by omega) (fun q hq => (HO2.out.lt q hq).1)⟩
        rw [HTK.out, List.map_append]
        exact HO3.out
      case measure => simp [intOf]; omega
    · obtain rfl : k = d.cs.length := by omega
      go_wp2
      go_ret
      refine ⟨_, rfl, ?_, HBL.out⟩
      have := HO.out
      rw [List.take_length] at this
      exact this
end Go.Proofs.Ytnplcfgjidolbaa
end
section
namespace Go.Proofs.Ytnplcfgjidolbaa
open Go.RowKit

/-- An integer's cell. -/
def fI (z : Int) : Value := .int .i64 z
def sameI (a b : List Int) : Bool := decide (a = b)

theorem sameI_any (lo hi lo' hi' : Nat) (w : World) (v v' : Value) (l l' : List Int) (hv : Sl lo hi fI w v l) (hv' : Sl lo' hi' fI w v' l') :
    Calls Try.prog 37 #[v, v'] w fun e w' => e = .returned (.bool (sameI l l')) ∧ ∃ n, w' = w.drewN n := by
  obtain ⟨ao, cap, rfl, hl, _, hc⟩ := hv
  obtain ⟨ao', cap', rfl, hl', _, hc'⟩ := hv'
  by_cases hlen : l.length = l'.length
  · have hb : ((l.length : Int) != (l'.length : Int)) = false := by rw [hlen]; simp
    have HL := Lib.hid hlen
    clear hlen
    go_enter Try.func37, Try.ntmps37
    go_wp2
    go_loopw [5] (fun i wr => ∃ k n : Nat, k ≤ l.length ∧ i = .int .i64 k ∧ l.take k = l'.take k ∧ wr = w.drewN n) (fun i _ => l.length - (intOf i).toNat)
    case atStart => exact ⟨0, 0, by omega, rfl, rfl, rfl⟩
    case round =>
      obtain ⟨k, n, hk, rfl, ht, rfl⟩ := hrel
      have HT := Lib.hid ht
      clear ht
      by_cases hlt : k < l.length
      · obtain ⟨b, off, rfl, _, _, hcell⟩ := hc (by intro e; subst e; simp at hlt)
        have hlt' : k < l'.length := by have := HL.out; omega
        obtain ⟨b', off', rfl, _, _, hcell'⟩ := hc' (by intro e; subst e; simp at hlt')
        have hc1 : w.cell? ⟨b, off + k, none⟩ = some (.int .i64 l[k]) := hcell k hlt
        have hc2 : w.cell? ⟨b', off' + k, none⟩ = some (.int .i64 l'[k]) := hcell' k hlt'
        have i1 : (0 : Int) ≤ (k : Int) ∧ (k : Int) < (l.length : Int) := by omega
        have i2 : (0 : Int) ≤ (k : Int) ∧ (k : Int) < (l'.length : Int) := by omega
        clear hcell hcell' hc hc'
        go_wp2
        go_quiet (fail)
        go_wp2
        · have hne : l[k] ≠ l'[k] := by
            intro e
            have h : (l[k] != l'[k]) = true := by assumption
            rw [e] at h; simp at h
          go_ret
          refine ⟨?_, n + nq, by rw [World.drewN_drewN]⟩
          have hs : sameI l l' = false := by
            unfold sameI; rw [decide_eq_false_iff_not]; intro e; subst e; exact hne rfl
          rw [hs]; rfl
        · have he : l[k] = l'[k] := by
            have h : (l[k] != l'[k]) = false := by assumption
            simpa using h
          go_roundw
          case rel =>
            exact ⟨k + 1, _, by omega, by go_num, by rw [List.take_succ_eq_append_getElem hlt, List.take_succ_eq_append_getElem hlt', HT.out, he], rfl⟩
          case measure => simp [intOf]; omega
      · have e : k = l.length := by omega
        subst e
        have e2 : l = l' := by
          have h1 := HT.out
          have h2 := HL.out
          rw [List.take_length, h2, List.take_length] at h1
          exact h1
        subst e2
        clear HT HL hb hc hc'
        go_wp2
        go_ret
        exact ⟨by rw [show sameI l l = true from by simp [sameI]]; rfl, _, rfl⟩
  · have hb : ((l.length : Int) != (l'.length : Int)) = true := by simp; omega
    go_enter Try.func37, Try.ntmps37
    go_wp2
    go_ret
    refine ⟨?_, 0, rfl⟩
    have hs : sameI l l' = false := by
      unfold sameI; rw [decide_eq_false_iff_not]; intro e; subst e; exact hlen rfl
    rw [hs]; rfl
end Go.Proofs.Ytnplcfgjidolbaa
end
section
namespace Go.Proofs.Ytnplcfgjidolbaa
open Go.RowKit Go.Maps

theorem put_calm (d : Dsk) (a : Int) (s : List UInt8) (hd : d.dark = false) (ht : d.trip = -1) (ha : 0 ≤ a ∧ a < (d.ls.length : Int)) (hs : s.length = 256) : d.put a s = ({ d with wr := d.wr + 1, cs := d.cs ++ [(a.toNat, s)] }, 0) := by
  have hb : d.begins = (d, true) := by unfold Dsk.begins; rw [if_neg (by rw [hd]; decide), if_neg (by rw [ht]; decide), if_neg (by rw [ht]; decide)]
  rw [put_eq, hb, if_neg (by simp)]
  unfold Dsk.puts
  rw [if_neg (by simp only; omega), if_neg (by omega)]
theorem reads_calm (d : Dsk) (a : Int) (hd : d.dark = false) (ht : d.trip = -1) (ha : 0 ≤ a ∧ a < (d.ls.length : Int)) : d.reads a = ({ d with rd := d.rd + 1 }, some (d.get a.toNat), 0) := by
  have hb : d.begins = (d, true) := by unfold Dsk.begins; rw [if_neg (by rw [hd]; decide), if_neg (by rw [ht]; decide), if_neg (by rw [ht]; decide)]
  unfold Dsk.reads
  rw [hb, if_neg (by simp), if_neg (by omega)]

/-- The disk, and that all else of the caller's is as it was. -/
def Kd (w wr : World) (B lb bm : Nat) (d : Dsk) : Prop := (∃ cv, Dk wr w.heap.size B lb bm cv d) ∧ Below w.heap.size w wr
section
variable {w wr w' : World} {B lb bm : Nat} {d : Dsk}
theorem Kd.step (h : Kd w wr B lb bm d) (hb : Below wr.heap.size wr w') : Kd w w' B lb bm d := by
  obtain ⟨⟨cv, h1⟩, h2⟩ := h
  exact ⟨⟨cv, h1.below hb⟩, h2.trans (hb.mono h2.size)⟩
theorem ksector (h : Kd w wr B lb bm d) (x : UInt8) (z : Int) (hz : z = W8 x) : Calls Try.prog 33 #[.int .u8 z] wr fun e w' => ∃ v, e = .returned v ∧ Kd w w' B lb bm d ∧ w'.ownsRow w.heap.size 5 1 v (List.replicate 256 x).length ((List.replicate 256 x).map f8) ∧ Dfr w.heap.size wr w' :=
  (sector_any wr x z hz).mono fun e w' ⟨v, h1, h2, h3⟩ => ⟨v, h1, h.step h3, by rw [List.length_replicate]; exact own_low h2 h.2.size, Dfr.ofBelow h3 h.2.size⟩
theorem kwrite (h : Kd w wr B lb bm d) (hs : Small d) (hd : d.dark = false) (ht : d.trip = -1) (a : Int) (ha : 0 ≤ a ∧ a < (d.ls.length : Int)) (v : Value) (s : List UInt8) (hl : s.length = 256) (b0 : Nat) (hv : wr.ownsRow b0 5 1 v s.length (s.map f8)) :
    Calls Try.prog 32 #[.pointer (some ⟨B, 0, none⟩), .int .i64 a, v] wr fun e w' => e = .returned (.int .u16 0) ∧ Kd w w' B lb bm { d with wr := d.wr + 1, cs := d.cs ++ [(a.toNat, s)] } ∧ Dfr w.heap.size wr w' := by
  obtain ⟨⟨cv, h1⟩, h2⟩ := h
  refine (dwrite_any wr w.heap.size B lb bm cv d a v s b0 h1 hv hs).mono ?_
  rintro e w' ⟨he, cv', hd', hf⟩
  rw [put_calm d a s hd ht ha hl] at he hd'
  exact ⟨he, ⟨⟨cv', hd'⟩, h2.trans hf.below⟩, hf⟩
theorem kread (h : Kd w wr B lb bm d) (hs : Small d) (hd : d.dark = false) (ht : d.trip = -1) (a : Int) (ha : 0 ≤ a ∧ a < (d.ls.length : Int)) :
    Calls Try.prog 39 #[.pointer (some ⟨B, 0, none⟩), .int .i64 a] wr fun e w' => ∃ v, e = .returned (.tuple #[v, .int .u16 0]) ∧ Kd w w' B lb bm { d with rd := d.rd + 1 } ∧ w'.ownsRow w.heap.size 5 1 v 256 ((d.get a.toNat).map f8) ∧ (d.get a.toNat).length = 256 ∧ Dfr w.heap.size wr w' := by
  obtain ⟨⟨cv, h1⟩, h2⟩ := h
  refine (dread_any wr w.heap.size B lb bm cv d a h1 hs).mono ?_
  rintro e w' ⟨v, he, hd', hf, ho⟩
  rw [reads_calm d a hd ht ha] at he hd' ho
  exact ⟨v, he, ⟨⟨cv, hd'⟩, h2.trans hf.below⟩, own_low ho.2 h2.size, ho.1, hf⟩
theorem kcut (h : Kd w wr B lb bm d) (hc : d.cs.length ≤ 100000000) (kv : Value) (keep : List Bool) (hkeep : ∀ W, Dfr w.heap.size wr W → Sl 0 W.heap.size fB W kv keep) :
    Calls Try.prog 38 #[.pointer (some ⟨B, 0, none⟩), kv] wr fun e w' => e = .returned (.tuple #[]) ∧ Kd w w' B lb bm { d with ls := settled d.ls d.cs (fun i => keep.getD i false), cs := [], dark := false, trip := -1 } ∧ Dfr w.heap.size wr w' := by
  obtain ⟨⟨cv, h1⟩, h2⟩ := h
  refine (dcut_any wr w.heap.size B lb bm cv d kv keep h1 hc hkeep).mono ?_
  rintro e w' ⟨he, hd', hf⟩
  exact ⟨he, ⟨⟨_, hd'⟩, h2.trans hf.below⟩, hf⟩
theorem kcounts (h : Kd w wr B lb bm d) : Calls Try.prog 36 #[.pointer (some ⟨B, 0, none⟩)] wr fun e w' => e = .returned (.agg #[.int .i64 d.rd, .int .i64 d.wr, .int .i64 d.fl]) ∧ Kd w w' B lb bm d ∧ Dfr w.heap.size wr w' := by
  obtain ⟨⟨cv, h1⟩, h2⟩ := h
  exact (counts_any h1).mono fun e w' ⟨he, hb⟩ => ⟨he, ⟨⟨cv, h1.below hb⟩, h2.trans (hb.mono h2.size)⟩, Dfr.ofBelow hb h2.size⟩
theorem knew (w : World) (n : Int) (h1 : 1 ≤ n) (h2 : n ≤ 16384) : Calls Try.prog 29 #[.int .i64 n] w fun e w' => ∃ B lb bm, e = .returned (.tuple #[.pointer (some ⟨B, 0, none⟩), .int .u16 0]) ∧ Kd w w' B lb bm (newDsk n.toNat) :=
  (dnew_any w n h1 h2).mono fun _ _ ⟨B, lb, bm, he, hd, hb⟩ => ⟨B, lb, bm, he, ⟨_, hd⟩, hb⟩
theorem kdark (h : Kd w wr B lb bm d) : Calls Try.prog 34 #[.pointer (some ⟨B, 0, none⟩)] wr fun e w' => e = .returned (.bool d.dark) ∧ wr = w' := by
  obtain ⟨⟨cv, h1⟩, _⟩ := h
  exact dark_any h1
end
/-- Rows of bytes that are the call's own, compared. -/
theorem ksame {wr : World} {v v' : Value} {s s' : List UInt8} {b b' : Nat} (hv : wr.ownsRow b 5 1 v s.length (s.map f8)) (hl : s.length = 256) (hv' : wr.ownsRow b' 5 1 v' s'.length (s'.map f8)) (hl' : s'.length = 256) :
    Calls Try.prog 16 #[v, v'] wr fun e w' => e = .returned (.bool (sameB s s')) ∧ ∃ n, w' = wr.drewN n :=
  same_any b wr.heap.size b' wr.heap.size wr v v' s s' (Sl.owns hv (by omega)) (Sl.owns hv' (by omega))

/-- Such a disk. -/
def calm (ls : List (List UInt8)) (cs : List (Nat × List UInt8)) (rd wr : Int) : Dsk := ⟨ls, cs, false, -1, rd, wr, 0⟩
structure Nums (ls : List (List UInt8)) (cs : List (Nat × List UInt8)) (rd wr : Int) : Prop where
  ls : ls.length ≤ 16384
  cs : cs.length ≤ 100000000
  rd : 0 ≤ rd ∧ rd ≤ 1000000000
  wr : 0 ≤ wr ∧ wr ≤ 1000000000
theorem Nums.small {ls : List (List UInt8)} {cs : List (Nat × List UInt8)} {rd wr : Int} (h : Nums ls cs rd wr) : Small (calm ls cs rd wr) :=
  ⟨h.ls, h.cs, (by show (-1 : Int) ≤ 9223372036854775807; omega), ⟨h.rd.1, (by show rd < 4611686018427387904; have := h.rd.2; omega)⟩, ⟨h.wr.1, (by show wr < 4611686018427387904; have := h.wr.2; omega)⟩, (by show (0 : Int) ≤ 0 ∧ (0 : Int) < 4611686018427387904; omega)⟩
section
variable {w wr : World} {B lb bm : Nat} {ls : List (List UInt8)} {cs : List (Nat × List UInt8)} {r q : Int}
theorem cwrite (h : Kd w wr B lb bm (calm ls cs r q)) (hn : Nums ls cs r q) (a : Int) (ha : 0 ≤ a ∧ a < (ls.length : Int)) (v : Value) (s : List UInt8) (hl : s.length = 256) (b0 : Nat) (hv : wr.ownsRow b0 5 1 v s.length (s.map f8)) :
    Calls Try.prog 32 #[.pointer (some ⟨B, 0, none⟩), .int .i64 a, v] wr fun e w' => e = .returned (.int .u16 0) ∧ Kd w w' B lb bm (calm ls (cs ++ [(a.toNat, s)]) r (q + 1)) ∧ Dfr w.heap.size wr w' :=
  kwrite h hn.small rfl rfl a ha v s hl b0 hv
theorem cread (h : Kd w wr B lb bm (calm ls cs r q)) (hn : Nums ls cs r q) (a : Int) (ha : 0 ≤ a ∧ a < (ls.length : Int)) (s : List UInt8) (hs : (calm ls cs r q).get a.toNat = s) :
    Calls Try.prog 39 #[.pointer (some ⟨B, 0, none⟩), .int .i64 a] wr fun e w' => ∃ v, e = .returned (.tuple #[v, .int .u16 0]) ∧ Kd w w' B lb bm (calm ls cs (r + 1) q) ∧ w'.ownsRow w.heap.size 5 1 v s.length (s.map f8) ∧ s.length = 256 ∧ Dfr w.heap.size wr w' := by
  refine (kread h hn.small rfl rfl a ha).mono ?_
  rintro e w' ⟨v, h1, h2, h3, h4, h5⟩
  rw [hs] at h3 h4
  exact ⟨v, h1, h2, by rw [h4]; exact h3, h4, h5⟩
theorem ccut (h : Kd w wr B lb bm (calm ls cs r q)) (hn : Nums ls cs r q) (kv : Value) (keep : List Bool) (hkeep : ∀ W, Dfr w.heap.size wr W → Sl 0 W.heap.size fB W kv keep) (ls' : List (List UInt8)) (hs : settled ls cs (fun i => keep.getD i false) = ls') :
    Calls Try.prog 38 #[.pointer (some ⟨B, 0, none⟩), kv] wr fun e w' => e = .returned (.tuple #[]) ∧ Kd w w' B lb bm (calm ls' [] r q) ∧ Dfr w.heap.size wr w' := by
  subst hs
  exact kcut h hn.cs kv keep hkeep
end
end Go.Proofs.Ytnplcfgjidolbaa
end
