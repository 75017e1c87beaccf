/- A read of the disk: the closure's walk. -/
import Derived.Test.YtnplcfgjidolbaaDiskWrite
import Derived.Deep.RegionHeld3
import Derived.Deep.OwnRows
namespace Go.Proofs.Ytnplcfgjidolbaa
open Go.RowKit Go.Maps

set_option linter.unusedSimpArgs false
/-- A sector's noughts. -/
def zeros256 : Array Value := Array.replicate 256 (.int .u8 0)
theorem wp_alloc168 {o : Oper} {a : Act} {w : World} {K : Act → World → Prop} {Q : Exit → Act → World → Prop} (ho : o.op = .alloc 168) (h : K (a.put o.dst (.pointer (some ⟨w.heap.size, 0, none⟩))) (w.alloc (.cells zeros256 168))) : o.wp Try.prog a w K Q := by
  obtain ⟨i, hi, hz⟩ := Option.map_eq_some_iff.1 zero168
  unfold Oper.wp execOp
  simp [ho, Instr.alloc, zeroValue, typeInfo, hi, hz, newVar, newRow, Value.cells, Result.andThen]
  exact h
/-- A sector, written whole. -/
theorem heap_sector {W : World} {b : Nat} {cur : Array Value} (hb : W.heap[b]? = some (.cells cur 168 (0, 0))) (hs : cur.size = 256) (s : List UInt8) (hl : s.length = 256) : (W.setCells b 0 (sec s)).heap[b]? = some (.cells (sec s).toArray 168 (0, 0)) := by
  rw [heap_setCells W b 168 (sec s) 0 cur hb (by rw [sec_len]; omega)]
  rw [sec_len, hl]
  have : cur.toList.length = 256 := by simpa using hs
  simp [List.drop_eq_nil_of_le, this]
theorem there_of {W : World} {b : Nat} {cur : Array Value} (hb : W.heap[b]? = some (.cells cur 168 (0, 0))) (hs : cur.size = 256) : W.there b 0 256 := by
  intro j hj
  rw [Nat.zero_add]
  refine ⟨?_, frozen_of_row _ _ _ _ _ hb⟩
  rw [cell_of_row _ _ _ _ _ _ hb, Array.getElem?_eq_getElem (by omega)]
  rfl
theorem slice168 (b : Nat) (W : World) : (Instr.sliceAt 168 (.pointer (some ⟨b, 0, none⟩)) none none none).run Try.prog W = .ok (.slice (some ⟨b, 0, none⟩) 256 256) W := by
  obtain ⟨i, hi, _⟩ := info_parts info5
  simp [Instr.sliceAt, run_underlying und168, Instr.sureAddr, Instr.sliceBounds, sizeOf, typeInfo, hi, Result.andThen, Addr.add]

set_option maxRecDepth 100000 in
theorem zero3 (w : World) : (zeroValue 3).run Try.prog w = .ok (.int .i64 0) w := by
  have h : (Try.prog.info? 3).map (fun i => i.zero) = some (some (.int .i64 0)) := by kernel_rfl
  obtain ⟨i, hi, hz⟩ := Option.map_eq_some_iff.1 h
  simp [zeroValue, typeInfo, hi, hz]
set_option maxRecDepth 100000 in
/-- A look-up of the disk's map. -/
theorem Dk.look {W : World} {base B lb bm : Nat} {cv : Value} {d : Dsk} (h : Dk W base B lb bm cv d) (a : Nat) (ha : a ≤ 1000000000) :
    ∃ c : Int, (Instr.lookup 161 (.map (some bm)) (.int .i64 (a : Int)) true).run Try.prog W = .ok (.tuple #[.int .i64 c, .bool (lastOf d.cs a).isSome]) W ∧ ∀ j, lastOf d.cs a = some j → c = (j : Int) := by
  obtain ⟨D, hm, hs⟩ := h.seen
  obtain ⟨v, ps, hrun, hv⟩ := hm.look_ok (int_keyed und3) und161 (zero3 W) (plainElem_int und3 (by decide)) (keyOf_int_mk und3 (WalkArith.wf_i64 (show -9223372036854775808 ≤ (a : Int) ∧ (a : Int) ≤ 9223372036854775807 by omega)))
  obtain ⟨c, rfl, hc, _⟩ := plainElem_int_inv und3 hv
  refine ⟨c, by rw [hrun, (hs.2 a).1], fun j hj => ?_⟩
  have h1 := (hs.2 a).2 j hj
  have h2 := congrArg Prod.fst hc
  rw [h1] at h2
  injection h2 with h2
  injection h2 with _ h2
  exact h2.symm

theorem own_low {w : World} {base base' : Nat} {e : TypeId} {size : Nat} {v : Value} {n : Nat} {xs : List Value} (h : w.ownsRow base e size v n xs) (hb : base' ≤ base) : w.ownsRow base' e size v n xs := by
  obtain ⟨h1, h | ⟨g, c, cur, h2, h3, h4⟩⟩ := h
  · exact ⟨h1, .inl h⟩
  · exact ⟨h1, .inr ⟨g, c, cur, h2, Nat.le_trans hb h3, h4⟩⟩

set_option maxHeartbeats 1000000 in
set_option maxRecDepth 100000 in
theorem read1_ok (w : World) (base B lb bm : Nat) (cv : Value) (d : Dsk) (pa pd po : Nat) (a : Nat) (ov : Value) (h : Dk w base B lb bm cv d) (ha : a < d.ls.length) (hn : d.ls.length ≤ 16384) (hc : d.cs.length ≤ 100000000)
    (ca : w.heap[pa]? = some (.cells #[.int .i64 (a : Int)] 3 (0, 0))) (cd : w.heap[pd]? = some (.cells #[.pointer (some ⟨B, 0, none⟩)] 92 (0, 0))) (co : w.heap[po]? = some (.cells #[ov] 22 (0, 0))) :
    Calls Try.prog 92 #[.pointer (some ⟨pa, 0, none⟩), .pointer (some ⟨pd, 0, none⟩), .pointer (some ⟨po, 0, none⟩)] w fun e w' => e = .returned (.int .u16 0) ∧ Gro po none w w' ∧ ∃ v', w'.heap[po]? = some (.cells #[v'] 22 (0, 0)) ∧ w'.ownsRow w.heap.size 5 1 v' 256 ((d.get a).map f8) := by
  obtain ⟨c0, c1, c2, c3, c4, c5, c6, c7, fz⟩ := h.cells
  have p1 : w.cell? ⟨pa, 0, none⟩ = some (.int .i64 (a : Int)) := (cell_of_row _ _ _ _ _ _ ca).trans rfl
  have p2 : w.cell? ⟨pd, 0, none⟩ = some (.pointer (some ⟨B, 0, none⟩)) := (cell_of_row _ _ _ _ _ _ cd).trans rfl
  have hl := h.ok.1 d.ls[a] (List.getElem_mem ha)
  have hsa := h.sector a ha
  generalize hs0 : d.ls[a] = s0 at hl hsa
  have b1 : Below w.heap.size w (w.drew.drew.alloc (.cells zeros256 168)) := ((Below.refl _ _).trans ⟨rfl, rfl, rfl, Nat.le_refl _, fun _ _ => rfl⟩ : Below w.heap.size w w.drew.drew).alloc (Nat.le_refl _) _
  have hW1b : (w.drew.drew.alloc (.cells zeros256 168)).heap[w.heap.size]? = some (.cells zeros256 168 (0, 0)) := heap_alloc_new w.drew.drew _
  have hz : zeros256.size = 256 := by simp [zeros256]
  have hth := there_of hW1b hz
  have hW2b := heap_sector hW1b hz s0 hl
  have b2 : Below w.heap.size w ((w.drew.drew.alloc (.cells zeros256 168)).setCells w.heap.size 0 (sec s0)) := by
    obtain ⟨q1, q2, q3, q4⟩ := setCells_rest w.heap.size (sec s0) 0 (w.drew.drew.alloc (.cells zeros256 168))
    exact ⟨q1.trans b1.os, q2.trans b1.tape, q3.trans b1.output, by rw [q4]; exact b1.size, fun k hk => (heap_setCells_other' _ _ _ _ _ (by omega)).trans (b1.block k hk)⟩
  have s1 : w.drew.drew.cell? ⟨pa, 0, none⟩ = some (.int .i64 (a : Int)) := p1
  have s2 : w.drew.drew.cell? ⟨pd, 0, none⟩ = some (.pointer (some ⟨B, 0, none⟩)) := p2
  have s3 : w.drew.drew.cell? ⟨B, 0, none⟩ = some (.slice (some ⟨lb, 0, none⟩) d.ls.length d.ls.length) := c0
  have s4 : w.drew.drew.rangeAt lb (a * 256) (sec s0) := hsa
  have key : ∀ {W : World}, Below w.heap.size w W → W.cell? ⟨pa, 0, none⟩ = some (.int .i64 (a : Int)) ∧ W.cell? ⟨pd, 0, none⟩ = some (.pointer (some ⟨B, 0, none⟩)) ∧ W.cell? ⟨B, 0, none⟩ = some (.slice (some ⟨lb, 0, none⟩) d.ls.length d.ls.length) ∧ W.rangeAt lb (a * 256) (sec s0) ∧ W.cell? ⟨B, 1, none⟩ = some cv ∧ W.cell? ⟨B, 2, none⟩ = some (.map (some bm)) := fun hb => by
    have e : ∀ {k o : Nat} {v : Value}, w.cell? ⟨k, o, none⟩ = some v → _ := fun {k o v} hk => (World.cell?_of_block (a := ⟨k, o, none⟩) (hb.block k (block_lt_of_cell hk))).trans hk
    exact ⟨e p1, e p2, e c0, fun j v hv => e (hsa j v hv), e c1, e c2⟩
  obtain ⟨t1, t2, t3, t4, _, _⟩ := key b1
  obtain ⟨u1, u2, u3, u4, u5, u6⟩ := key b2
  have hu168 := und168
  have hsz0 : (sec s0).toArray.size = 256 := by simp [sec_len, hl]
  have hsec : (Try.prog.info? 168).map (·.size) = some (sec s0).length := by rw [sec_len, hl]; exact size168
  have i1 : (0 : Int) ≤ (a : Int) ∧ (a : Int) < (d.ls.length : Int) := by omega
  have g1 : decide ((a : Int) < 0) = false := decide_eq_false (by omega)
  have g2 : decide ((d.ls.length : Int) ≤ (a : Int)) = false := decide_eq_false (by omega)
  have HD := Lib.hid h
  have HT := Lib.hid hth
  have HW2 := Lib.hid hW2b
  have HB2 := Lib.hid b2
  have T4 := Lib.hid t4
  have U4 := Lib.hid u4
  clear key hth hW2b b2 h hsa hW1b b1 c1 c2 c3 c4 c5 c6 c7 t4 u4
  go_enter Try.func92, Try.ntmps92
  go_wp2
  go_region
  all_goals go_wp2
  refine wp_region_held_drew (S := (fun w' => w'.cell? ⟨pa, 0, none⟩ = some (.int .i64 (a : Int)) ∧ w'.cell? ⟨pd, 0, none⟩ = some (.pointer (some ⟨B, 0, none⟩)) ∧ w'.cell? ⟨B, 0, none⟩ = some (.slice (some ⟨lb, 0, none⟩) d.ls.length d.ls.length) ∧ w'.rangeAt lb (a * 256) (sec s0))) (by kernel_rfl) ⟨s1, s2, s3, s4⟩ (fun hHeld => ?_)
  refine wpAnyH_take (i := 0) (oi := ⟨some 18, _, _, _, _, _⟩) (v := (.pointer (some ⟨B, 0, none⟩))) rfl (by kernel_rfl) (by kernel_rfl) (by kernel_rfl) (fun _ _ _ h => h) (Or.inl ⟨by rfl, ?_⟩) (by assumption) ?_
  · intro w' hSw
    obtain ⟨e0, e1, e2, e3⟩ := hSw
    go_simp
  try simp only [Act.put, List.setIfInBounds_toArray, List.set_cons_zero, List.set_cons_succ]
  refine wpAnyH_take (i := 1) (oi := ⟨some 19, _, _, _, _, _⟩) (v := (.pointer (some ⟨B, 0, none⟩))) rfl (by kernel_rfl) (by kernel_rfl) (by kernel_rfl) (fun _ _ _ h => h) (Or.inl ⟨by rfl, ?_⟩) (by assumption) ?_
  · intro w' hSw
    obtain ⟨e0, e1, e2, e3⟩ := hSw
    go_simp
  try simp only [Act.put, List.setIfInBounds_toArray, List.set_cons_zero, List.set_cons_succ]
  refine wpAnyH_take (i := 2) (oi := ⟨some 20, _, _, _, _, _⟩) (v := (.pointer (some ⟨B, 0, none⟩))) rfl (by kernel_rfl) (by kernel_rfl) (by kernel_rfl) (fun _ _ _ h => h) (Or.inl ⟨by rfl, ?_⟩) (by assumption) ?_
  · intro w' hSw
    obtain ⟨e0, e1, e2, e3⟩ := hSw
    go_simp
  try simp only [Act.put, List.setIfInBounds_toArray, List.set_cons_zero, List.set_cons_succ]
  refine wpAnyH_take (i := 3) (oi := ⟨some 21, _, _, _, _, _⟩) (v := (.slice (some ⟨lb, 0, none⟩) d.ls.length d.ls.length)) rfl (by kernel_rfl) (by kernel_rfl) (by kernel_rfl) (fun _ _ _ h => h) (Or.inl ⟨by rfl, ?_⟩) (by assumption) ?_
  · intro w' hSw
    obtain ⟨e0, e1, e2, e3⟩ := hSw
    go_simp
  try simp only [Act.put, List.setIfInBounds_toArray, List.set_cons_zero, List.set_cons_succ]
  refine wpAnyH_take (i := 4) (oi := ⟨some 22, _, _, _, _, _⟩) (v := (.int .i64 (a : Int))) rfl (by kernel_rfl) (by kernel_rfl) (by kernel_rfl) (fun _ _ _ h => h) (Or.inl ⟨by rfl, ?_⟩) (by assumption) ?_
  · intro w' hSw
    obtain ⟨e0, e1, e2, e3⟩ := hSw
    go_simp
  try simp only [Act.put, List.setIfInBounds_toArray, List.set_cons_zero, List.set_cons_succ]
  refine wpAnyH_take (i := 5) (oi := ⟨some 23, _, _, _, _, _⟩) (v := (.pointer (some ⟨lb, a * 256, none⟩))) rfl (by kernel_rfl) (by kernel_rfl) (by kernel_rfl) (fun _ _ _ h => h) (Or.inl ⟨by rfl, ?_⟩) (by assumption) ?_
  · intro w' hSw
    obtain ⟨e0, e1, e2, e3⟩ := hSw
    go_simp
  try simp only [Act.put, List.setIfInBounds_toArray, List.set_cons_zero, List.set_cons_succ]
  refine wpAnyH_take (i := 6) (oi := ⟨some 24, _, _, _, _, _⟩) (v := .agg (sec s0).toArray) rfl (by kernel_rfl) (by kernel_rfl) (by kernel_rfl) (fun _ _ _ h => h) (yieldsIf_load_mid (by rfl) _ _ rfl _ _ rfl _ _ (fun _ hw => hw.2.2.2) hu168 rfl hsec) (by assumption) ?_
  try simp only [Act.put, List.setIfInBounds_toArray, List.set_cons_zero, List.set_cons_succ]
  refine wpAnyH_ready (rs := [7]) (by kernel_rfl) (by simp) ?_
  refine AllReadyH.cons (o := ⟨some 4, _, _, _, _, _⟩) rfl (fun K hK => ?_) AllReadyH.nil
  rw [if_pos (by rfl)]
  refine wp_alloc168 rfl ?_
  try simp only [Act.put, List.setIfInBounds_toArray, List.set_cons_zero, List.set_cons_succ]
  refine hK.out _ _ ⟨t1, t2, t3, T4.out⟩ (fun _ => ?_)
  clear hK K
  refine wpAnyH_ready (rs := [8]) (by kernel_rfl) (by simp) ?_
  refine AllReadyH.cons (o := ⟨none, _, _, _, _, _⟩) rfl (fun K hK => ?_) AllReadyH.nil
  rw [if_pos (by rfl)]
  refine wp_store_mid 168 _ _ rfl w.heap.size 0 (sec s0).toArray rfl rfl (by rw [hsz0]; exact HT.out) (by rw [hsz0]; exact size168) (all_oneCell_toArray (sec_one _)) ?_
  try simp only [Act.put, List.setIfInBounds_toArray, List.set_cons_zero, List.set_cons_succ]
  refine hK.out _ _ ⟨u1, u2, u3, U4.out⟩ (fun _ => ?_)
  clear hK K
  refine wpAnyH_done (by kernel_rfl) ?_ _
  clear hHeld
  generalize hW2 : (w.drew.drew.alloc (.cells zeros256 168)).setCells w.heap.size 0 (sec s0) = W2 at *
  have HDW := Lib.hid (HD.out.below HB2.out)
  obtain ⟨c, hlk, hj⟩ := (HDW.out.below (drew_b _)).look a (by omega)
  obtain ⟨d0, d1, d2, _, _, _, _, _, _⟩ := HDW.out.cells
  have u1' : W2.drew.cell? ⟨pa, 0, none⟩ = some (.int .i64 (a : Int)) := u1
  have u2' : W2.drew.cell? ⟨pd, 0, none⟩ = some (.pointer (some ⟨B, 0, none⟩)) := u2
  have u6' : W2.drew.cell? ⟨B, 2, none⟩ = some (.map (some bm)) := u6
  have hco := (HB2.out.block po (heap_lt' co)).trans co
  have hpo := heap_lt' co
  have hsl8 := slice168 w.heap.size
  have hW2l := heap_lt' HW2.out
  clear hu168 hsec co s1 s2 s3 s4 t1 t2 t3 c0 p1 p2
  rcases hlo : lastOf d.cs a with _ | j
  · rw [hlo] at hlk
    simp only [Option.isSome_none] at hlk
    go_wp2
    go_region_held3 (fun w' => w'.cell? ⟨pa, 0, none⟩ = some (.int .i64 (a : Int)) ∧ w'.cell? ⟨pd, 0, none⟩ = some (.pointer (some ⟨B, 0, none⟩)) ∧ w'.cell? ⟨B, 2, none⟩ = some (.map (some bm))) (first | assumption | exact ⟨by assumption, by assumption, by assumption⟩) (first | fail)
    have hsl : Sl 0 W2.drew.heap.size f8 W2.drew (.slice (some ⟨w.heap.size, 0, none⟩) 256 256) s0 := ⟨some ⟨w.heap.size, 0, none⟩, 256, by rw [hl], by omega, (fun h => by cases h), fun _ => ⟨w.heap.size, 0, rfl, Nat.zero_le _, heap_lt' (show W2.drew.heap[w.heap.size]? = _ from HW2.out), fun q hq => by
      rw [Nat.zero_add, cell_of_row _ _ _ _ _ _ (show W2.drew.heap[w.heap.size]? = _ from HW2.out)]
      simp [sec, hq]⟩, by omega⟩
    have HC := Lib.hid (clone_any 0 W2.drew.heap.size W2.drew _ s0 hsl (Nat.le_refl _))
    clear hsl
    all_goals go_wp2_with (first
      | (go_at_call 50; refine Calls.mono HC.out ?_; rintro e w4 ⟨v', rfl, hown, hb4⟩; obtain ⟨va, vc, rfl⟩ := own_slice hown; have hco4 := (hb4.block po (Nat.lt_of_lt_of_le hpo (show w.heap.size ≤ W2.drew.heap.size from HB2.out.size))).trans (show W2.drew.heap[po]? = _ from hco); have z1 : w4.cell? ⟨po, 0, none⟩ = some ov := (cell_of_row _ _ _ _ _ _ hco4).trans rfl; have z2 : w4.frozen? ⟨po, 0, none⟩ = false := frozen_of_row _ _ _ _ _ hco4; have HO4 := Lib.hid hown; have HB4 := Lib.hid hb4; have HCO := Lib.hid hco4; clear hown hb4 hco4))
    go_ret
    have hb5 : Below w.heap.size w w4 := (show Below w.heap.size w W2.drew from ⟨HB2.out.os, HB2.out.tape, HB2.out.output, HB2.out.size, HB2.out.block⟩).trans (HB4.out.mono (show w.heap.size ≤ W2.drew.heap.size from HB2.out.size))
    have hl5 : s0.length = 256 := hl
    have HO4 := Lib.hid (show w4.ownsRow W2.drew.heap.size 5 1 (.slice va 256 vc) 256 (s0.map f8) from by have := HO4.out; rw [hl5] at this; exact this)
    refine ⟨rfl, ⟨hb5.os, hb5.tape, hb5.output, by simpa using hb5.size, fun k hk hne _ => (heap_setCell_other _ _ _ _ hne).trans (hb5.block k hk)⟩, .slice va 256 vc, by rw [heap_setCell_same _ _ _ _ _ _ HCO.out]; rfl, ?_⟩
    have hg : d.get a = s0 := by unfold Dsk.get; rw [hlo, ← hs0]; simp [List.getD, ha]
    rw [hg]
    have ho := own_of_same (w' := w4.setCell ⟨po, 0, none⟩ (.slice va 256 vc)) HO4.out (fun k hk => heap_setCell_other _ _ _ _ (Nat.ne_of_gt (Nat.lt_of_lt_of_le hpo (Nat.le_trans (show w.heap.size ≤ W2.drew.heap.size from HB2.out.size) (HO4.out.lt k hk).1))))
    exact own_low ho (show w.heap.size ≤ W2.drew.heap.size from HB2.out.size)
  · rw [hlo] at hlk
    simp only [Option.isSome_some] at hlk
    obtain ⟨c', hc1, hc2⟩ := lastOf_some d.cs a j hlo
    have jl : j < d.cs.length := (List.getElem?_eq_some_iff.1 hc1).1
    have hcj : c = (j : Int) := hj j hlo
    subst hcj
    obtain ⟨g, cap, hcv, _, _⟩ := own_shape HD.out.cache (by omega)
    subst hcv
    have hr := (HDW.out.below (drew_b _)).write rfl j jl
    have hl1 := (HD.out.ok.2 _ (List.getElem_mem jl)).1
    generalize hs1 : d.cs[j].2 = s1 at hl1
    have hr1 : W2.drew.rangeAt g (j * 257 + 1) (sec s1) := fun q v hv => by
      have := hr (q + 1) v (by unfold wcl; rw [hs1]; simpa using hv)
      rw [← this]
      congr 2
      omega
    have hsec1 : (Try.prog.info? 168).map (·.size) = some (sec s1).length := by rw [sec_len, hl1]; exact size168
    have hsz1 : (sec s1).toArray.size = 256 := by simp [sec_len, hl1]
    have hth2 : W2.drew.there w.heap.size 0 256 := there_of (show W2.drew.heap[w.heap.size]? = _ from HW2.out) hsz0
    have HTH := Lib.hid hth2
    have HR1 := Lib.hid hr1
    have HSEC1 := Lib.hid hsec1
    have hw3b := heap_sector (show W2.drew.heap[w.heap.size]? = _ from HW2.out) hsz0 s1 hl1
    have b3 : Below w.heap.size w (W2.drew.setCells w.heap.size 0 (sec s1)) := by
      obtain ⟨q1, q2, q3, q4⟩ := setCells_rest w.heap.size (sec s1) 0 W2.drew
      exact ⟨q1.trans HB2.out.os, q2.trans HB2.out.tape, q3.trans HB2.out.output, by rw [q4]; exact HB2.out.size, fun k hk => (heap_setCells_other' _ _ _ _ _ (by omega)).trans (HB2.out.block k hk)⟩
    have hco3 := (heap_setCells_other' w.heap.size (sec s1) 0 W2.drew po (by omega)).trans (show W2.drew.heap[po]? = _ from hco)
    have HW3 := Lib.hid hw3b
    have HB3 := Lib.hid b3
    have u5' : W2.drew.cell? ⟨B, 1, none⟩ = some (.slice (some ⟨g, 0, none⟩) d.cs.length cap) := u5
    have i2 : (0 : Int) ≤ (j : Int) ∧ (j : Int) < (d.cs.length : Int) := by omega
    clear hr hr1 hsec1 hth2 hw3b b3
    go_wp2
    go_region_held3 (fun w' => w'.cell? ⟨pa, 0, none⟩ = some (.int .i64 (a : Int)) ∧ w'.cell? ⟨pd, 0, none⟩ = some (.pointer (some ⟨B, 0, none⟩)) ∧ w'.cell? ⟨B, 2, none⟩ = some (.map (some bm))) (first | assumption | exact ⟨by assumption, by assumption, by assumption⟩) (first | fail)
    have hsl : Sl 0 (W2.drew.setCells w.heap.size 0 (sec s1)).heap.size f8 (W2.drew.setCells w.heap.size 0 (sec s1)) (.slice (some ⟨w.heap.size, 0, none⟩) 256 256) s1 := ⟨some ⟨w.heap.size, 0, none⟩, 256, by rw [hl1], by omega, (fun h => by cases h), fun _ => ⟨w.heap.size, 0, rfl, Nat.zero_le _, heap_lt' HW3.out, fun q hq => by
      rw [Nat.zero_add, cell_of_row _ _ _ _ _ _ HW3.out]
      simp [sec, hq]⟩, by omega⟩
    have HC := Lib.hid (clone_any 0 (W2.drew.setCells w.heap.size 0 (sec s1)).heap.size (W2.drew.setCells w.heap.size 0 (sec s1)) _ s1 hsl (Nat.le_refl _))
    clear hsl
    all_goals go_wp2_with (first
      | (with_reducible refine wpList_load_mid rfl 168 _ rfl g (j * 257 + 1) rfl (sec s1) (.array 256 5) HR1.out und168 rfl HSEC1.out ?_)
      | (with_reducible refine wpList_store_mid rfl 168 _ _ rfl w.heap.size 0 (sec s1).toArray rfl rfl (by rw [hsz1]; exact HTH.out) (by rw [hsz1]; exact size168) (all_oneCell_toArray (sec_one _)) ?_; rw [List.toList_toArray])
      | (go_at_call 50; refine Calls.mono HC.out ?_; rintro e w4 ⟨v', rfl, hown, hb4⟩; obtain ⟨va, vc, rfl⟩ := own_slice hown; have hco4 := (hb4.block po (Nat.lt_of_lt_of_le hpo HB3.out.size)).trans hco3; have z1 : w4.cell? ⟨po, 0, none⟩ = some ov := (cell_of_row _ _ _ _ _ _ hco4).trans rfl; have z2 : w4.frozen? ⟨po, 0, none⟩ = false := frozen_of_row _ _ _ _ _ hco4; have HO4 := Lib.hid hown; have HB4 := Lib.hid hb4; have HCO := Lib.hid hco4; clear hown hb4 hco4))
    go_ret
    have hb5 : Below w.heap.size w w4 := HB3.out.trans (HB4.out.mono HB3.out.size)
    have hl5 : s1.length = 256 := hl1
    have HO4 := Lib.hid (show w4.ownsRow (W2.drew.setCells w.heap.size 0 (sec s1)).heap.size 5 1 (.slice va 256 vc) 256 (s1.map f8) from by have := HO4.out; rw [hl5] at this; exact this)
    refine ⟨rfl, ⟨hb5.os, hb5.tape, hb5.output, by simpa using hb5.size, fun k hk hne _ => (heap_setCell_other _ _ _ _ hne).trans (hb5.block k hk)⟩, .slice va 256 vc, by rw [heap_setCell_same _ _ _ _ _ _ HCO.out]; rfl, ?_⟩
    have hg : d.get a = s1 := by unfold Dsk.get; rw [hlo]; simp [List.getD, jl, hs1]
    rw [hg]
    have ho := own_of_same (w' := w4.setCell ⟨po, 0, none⟩ (.slice va 256 vc)) HO4.out (fun k hk => heap_setCell_other _ _ _ _ (Nat.ne_of_gt (Nat.lt_of_lt_of_le hpo (Nat.le_trans HB3.out.size (HO4.out.lt k hk).1))))
    exact own_low ho HB3.out.size
end Go.Proofs.Ytnplcfgjidolbaa
