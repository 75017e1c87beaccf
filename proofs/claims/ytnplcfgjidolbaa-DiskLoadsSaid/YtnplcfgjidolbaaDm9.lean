/- The reference's disk: Write. The reference's disk: Write, as it goes on:  The reference's disk: Write, whole. Numbers in groups of seven, read: plain Lean. -/
import Derived.Test.YtnplcfgjidolbaaDm8
import Derived.Deep.AppendLies
import Derived.Deep.RegionHeldLaw
import Derived.Deep.RegionLaw
section
namespace Go.Proofs.Ytnplcfgjidolbaa
open Go.RowKit

theorem info256 : (Try.prog.info? 256).map (fun i => (i.zero, i.size, i.bytes)) = some (some (.agg #[.int .i64 0, .slice none 0 0]), 2, 32) := by kernel_rfl
theorem und174 : Try.prog.underlying 174 = some (.slice 256) := by kernel_rfl

/-- A write is laid behind the others. -/
theorem wr2s_snoc (cs : List (Nat × List UInt8)) (us : List Value) (h : us.length = cs.length) (c : Nat × List UInt8) (u : Value) : wr2s (cs ++ [c]) (us ++ [u]) = wr2s cs us ++ [.int .i64 (c.1 : Int), u] := by
  unfold wr2s
  rw [List.map_append, List.zip_append (by simp [h]), List.flatMap_append]
  rfl

theorem RD.put {w w' : World} {base B av : Nat} {lv cv : Value} {d : Dsk} (h : RD w base B av lv cv d) {us : List Value} (hus : us.length = d.cs.length) (hu5 : ∀ (i : Nat) (u : Value) (c : Nat × List UInt8), us[i]? = some u → d.cs[i]? = some c → Rb w base av u c.2)
    {cv' u : Value} {a : Nat} {s : List UInt8} (hs : s.length = 256) (ha : a < d.ls.length) (hrow : w'.ownsRow base 256 2 cv' (d.cs.length + 1) (wr2s d.cs us ++ [.int .i64 (a : Int), u])) (hu : Rb w' base av u s)
    (hB : w'.heap[B]? = some (.cells (rdTop lv cv' d) 176 (0, 0))) (hk : ∀ k, k < w.heap.size → k ≠ B → some k ≠ cv.ownBlock → w'.heap[k]? = w.heap[k]?) :
    RD w' base B av lv cv' { d with cs := d.cs ++ [(a, s)] } := by
  obtain ⟨vs, h1, h2⟩ := h.las
  obtain ⟨us0, h3, h4, h5⟩ := h.cache
  have keep : ∀ {e : TypeId} {sz : Nat} {v : Value} {n : Nat} {xs : List Value}, w.ownsRow base e sz v n xs → e ≠ 176 → e ≠ 256 → ∀ k, v.ownBlock = some k → w'.heap[k]? = w.heap[k]? := fun hv e1 e2 k hb =>
    hk k (hv.lt k hb).2 (fun e => own_not hv h.top e1 (by rw [hb, e])) (fun e => by
      obtain ⟨c1, q1⟩ := own_block hv k hb
      obtain ⟨c2, q2⟩ := own_block h4 k e.symm
      rw [q1] at q2
      injection q2 with q2
      injection q2 with _ q2
      exact e2 q2)
  refine ⟨hB, ⟨vs, own_of_same h1 (keep h1 (by decide) (by decide)), fun i x t hx ht => (h2 i x t hx ht).same (keep (h2 i x t hx ht).1 (by decide) (by decide))⟩, ⟨us ++ [u], by simp [hus], ?_, fun i x c hx hc => ?_⟩, ⟨h.ok.1, fun c hc => ?_⟩, h.lo⟩
  · have e := wr2s_snoc d.cs us hus (a, s) u
    unfold wr2s at e
    simp only [List.length_append, List.length_singleton]
    rw [e]
    exact hrow
  · dsimp only at hc
    by_cases hi : i < d.cs.length
    · rw [List.getElem?_append_left hi] at hc
      rw [List.getElem?_append_left (by omega)] at hx
      exact (hu5 i x c hx hc).same (keep (hu5 i x c hx hc).1 (by decide) (by decide))
    · have : i < (d.cs ++ [(a, s)]).length := (List.getElem?_eq_some_iff.1 hc).1
      simp at this
      obtain rfl : i = d.cs.length := by omega
      rw [List.getElem?_append_right (Nat.le_refl _)] at hc
      rw [← hus, List.getElem?_append_right (Nat.le_refl _)] at hx
      simp at hc hx
      subst hc hx
      exact hu
  · rcases List.mem_append.1 hc with h6 | h6
    · exact h.ok.2 c h6
    · simp at h6
      subst h6
      exact ⟨hs, ha⟩

theorem cell_alloc {w : World} {a : Addr} {v : Value} {o : Obj} (h : w.cell? a = some v) : (w.alloc o).cell? a = some v :=
  (World.cell?_of_block (Below.heap_alloc _ _ _ (block_lt_of_cell h))).trans h

set_option maxHeartbeats 1000000 in
set_option maxRecDepth 100000 in
/-- A write that does not begin. -/
theorem rwrite_off (w : World) (base B av : Nat) (lv cv bv : Value) (d1 : Dsk) (a : Int)
    (hc : Calls Try.prog 109 #[.pointer (some ⟨B, 0, none⟩)] w fun e w' => e = .returned (.int .u16 4) ∧ RD w' base B av lv cv d1 ∧ Gr3 B lv.ownBlock cv.ownBlock w w') :
    Calls Try.prog 99 #[.pointer (some ⟨B, 0, none⟩), .int .i64 a, bv] w fun e w' => e = .returned (.int .u16 4) ∧ RD w' base B av lv cv d1 ∧ Gr3 B lv.ownBlock cv.ownBlock w w' := by
  have HC := Lib.hid hc
  clear hc
  go_enter Try.func99, Try.ntmps99
  go_wp2_with (go_at_call 109; refine Calls.mono HC.out ?_; rintro e w1 ⟨rfl, hr1, hgr1⟩; have HR1 := Lib.hid hr1; have HG1 := Lib.hid hgr1; clear hr1 hgr1)
  go_ret
  exact ⟨rfl, HR1.out, HG1.out⟩

set_option maxHeartbeats 1000000 in
set_option maxRecDepth 100000 in
/-- A write out of range. -/
theorem rwrite_out (w : World) (base B av : Nat) (lv cv bv : Value) (d1 : Dsk) (a : Int) (ha : a < 0 ∨ (d1.ls.length : Int) ≤ a)
    (hc : Calls Try.prog 109 #[.pointer (some ⟨B, 0, none⟩)] w fun e w' => e = .returned (.int .u16 0) ∧ RD w' base B av lv cv d1 ∧ Gr3 B lv.ownBlock cv.ownBlock w w') (hwr : 0 ≤ d1.wr ∧ d1.wr < 4611686018427387904) :
    Calls Try.prog 99 #[.pointer (some ⟨B, 0, none⟩), .int .i64 a, bv] w fun e w' => e = .returned (.int .u16 2) ∧ RD w' base B av lv cv { d1 with wr := d1.wr + 1 } ∧ Gr3 B lv.ownBlock cv.ownBlock w w' := by
  have HC := Lib.hid hc
  clear hc
  by_cases hn : a < 0
  · have g1 : decide (a < 0) = true := decide_eq_true hn
    go_enter Try.func99, Try.ntmps99
    go_wp2_with (go_at_call 109; refine Calls.mono HC.out ?_; rintro e w1 ⟨rfl, hr1, hgr1⟩; have HR1 := Lib.hid hr1; have HG1 := Lib.hid hgr1; obtain ⟨c0, -, -, -, -, c5, -, fz⟩ := rd_cells hr1.top; clear hr1 hgr1)
    go_ret
    refine ⟨rfl, HR1.out.retop (dark := d1.dark) (trip := d1.trip) (rd := d1.rd) (wr := d1.wr + 1) (fl := d1.fl) (by rw [heap_setCell_same _ _ _ _ _ _ HR1.out.top]; rfl) (fun k hk => heap_setCell_other _ _ _ _ hk), ?_⟩
    exact HG1.out.trans (retop_gr (w := w1) (w' := w1.setCell ⟨B, 5, none⟩ (.int .i64 (d1.wr + 1))) (B := B) (fun k hk => heap_setCell_other _ _ _ _ hk) rfl rfl rfl (by simp) lv.ownBlock cv.ownBlock) (Anew.refl _ _) (Anew.refl _ _)
  · have g1 : decide (a < 0) = false := decide_eq_false hn
    have g2 : decide ((d1.ls.length : Int) ≤ a) = true := decide_eq_true (by omega)
    go_enter Try.func99, Try.ntmps99
    go_wp2_with (go_at_call 109; refine Calls.mono HC.out ?_; rintro e w1 ⟨rfl, hr1, hgr1⟩; have HR1 := Lib.hid hr1; have HG1 := Lib.hid hgr1; obtain ⟨c0, -, -, -, -, c5, -, fz⟩ := rd_cells hr1.top; obtain ⟨⟨ao, cap, hlv⟩, -⟩ := hr1.shape; rw [hlv] at c0; clear hlv hr1 hgr1)
    go_ret
    refine ⟨rfl, HR1.out.retop (dark := d1.dark) (trip := d1.trip) (rd := d1.rd) (wr := d1.wr + 1) (fl := d1.fl) (by rw [heap_setCell_same _ _ _ _ _ _ HR1.out.top]; rfl) (fun k hk => heap_setCell_other _ _ _ _ hk), ?_⟩
    exact HG1.out.trans (retop_gr (w := w1) (w' := w1.setCell ⟨B, 5, none⟩ (.int .i64 (d1.wr + 1))) (B := B) (fun k hk => heap_setCell_other _ _ _ _ hk) rfl rfl rfl (by simp) lv.ownBlock cv.ownBlock) (Anew.refl _ _) (Anew.refl _ _)

set_option maxHeartbeats 1000000 in
set_option maxRecDepth 100000 in
/-- A write of a wrong length. -/
theorem rwrite_len (w : World) (base B av : Nat) (lv cv : Value) (d1 : Dsk) (a : Nat) (ao : Option Addr) (n cap : Nat) (hn : n ≠ 256) (ha : a < d1.ls.length)
    (hc : Calls Try.prog 109 #[.pointer (some ⟨B, 0, none⟩)] w fun e w' => e = .returned (.int .u16 0) ∧ RD w' base B av lv cv d1 ∧ Gr3 B lv.ownBlock cv.ownBlock w w') (hwr : 0 ≤ d1.wr ∧ d1.wr < 4611686018427387904) :
    Calls Try.prog 99 #[.pointer (some ⟨B, 0, none⟩), .int .i64 a, .slice ao n cap] w fun e w' => e = .returned (.int .u16 3) ∧ RD w' base B av lv cv { d1 with wr := d1.wr + 1 } ∧ Gr3 B lv.ownBlock cv.ownBlock w w' := by
  have HC := Lib.hid hc
  clear hc
  have g1 : decide ((a : Int) < 0) = false := decide_eq_false (by omega)
  have g2 : decide ((d1.ls.length : Int) ≤ (a : Int)) = false := decide_eq_false (by omega)
  have g3 : ((n : Int) != 256) = true := by simp; omega
  · go_enter Try.func99, Try.ntmps99
    go_wp2_with (go_at_call 109; refine Calls.mono HC.out ?_; rintro e w1 ⟨rfl, hr1, hgr1⟩; have HR1 := Lib.hid hr1; have HG1 := Lib.hid hgr1; obtain ⟨c0, -, -, -, -, c5, -, fz⟩ := rd_cells hr1.top; obtain ⟨⟨ao, cap, hlv⟩, -⟩ := hr1.shape; rw [hlv] at c0; clear hlv hr1 hgr1)
    go_ret
    refine ⟨rfl, HR1.out.retop (dark := d1.dark) (trip := d1.trip) (rd := d1.rd) (wr := d1.wr + 1) (fl := d1.fl) (by rw [heap_setCell_same _ _ _ _ _ _ HR1.out.top]; rfl) (fun k hk => heap_setCell_other _ _ _ _ hk), ?_⟩
    exact HG1.out.trans (retop_gr (w := w1) (w' := w1.setCell ⟨B, 5, none⟩ (.int .i64 (d1.wr + 1))) (B := B) (fun k hk => heap_setCell_other _ _ _ _ hk) rfl rfl rfl (by simp) lv.ownBlock cv.ownBlock) (Anew.refl _ _) (Anew.refl _ _)
end Go.Proofs.Ytnplcfgjidolbaa
end
section
namespace Go.Proofs.Ytnplcfgjidolbaa
open Go.RowKit

theorem write_end {w W w2 w3 : World} {base B av : Nat} {lv : Value} {cao : Option Addr} {ccap : Nat} {d : Dsk} {us : List Value} {a g1 cap1 g2 cap2 : Nat} {s : List UInt8} {o : Obj}
    (hr : RD W base B av lv (.slice cao d.cs.length ccap) d) (hus : us.length = d.cs.length) (hu5 : ∀ (i : Nat) (u : Value) (c : Nat × List UInt8), us[i]? = some u → d.cs[i]? = some c → Rb W base av u c.2) (hs : s.length = 256) (ha : a < d.ls.length)
    (hg : Gr3 B lv.ownBlock (Value.slice cao d.cs.length ccap).ownBlock w W) (hav : av < w.heap.size)
    (g1w : W.drew.grownBy w2 none) (o1 : w2.ownsRow W.heap.size 5 1 (.slice (some ⟨g1, 0, none⟩) (0 + 256) cap1) (0 + 256) ([] ++ s.map f8))
    (g2w : (w2.alloc o).grownBy w3 (Value.slice cao d.cs.length ccap).ownBlock) (hat : (Value.slice cao d.cs.length ccap).ownBlock = some g2 ∨ g2 = (w2.alloc o).heap.size)
    (o2 : w3.ownsRow base 256 2 (.slice (some ⟨g2, 0, none⟩) (d.cs.length + 1) cap2) (d.cs.length + 1) (wr2s d.cs us ++ [.int .i64 (a : Int), .slice (some ⟨g1, 0, none⟩) (0 + 256) cap1])) :
    RD (w3.setCell ⟨B, 1, none⟩ (.slice (some ⟨g2, 0, none⟩) (d.cs.length + 1) cap2)) base B av lv (.slice (some ⟨g2, 0, none⟩) (d.cs.length + 1) cap2) { d with cs := d.cs ++ [(a, s)] } ∧ Anew w (Value.slice cao d.cs.length ccap).ownBlock (Value.slice (some ⟨g2, 0, none⟩) (d.cs.length + 1) cap2).ownBlock ∧
      Gr3 B lv.ownBlock (Value.slice cao d.cs.length ccap).ownBlock w (w3.setCell ⟨B, 1, none⟩ (.slice (some ⟨g2, 0, none⟩) (d.cs.length + 1) cap2)) := by
  have s0 := hg.size
  have s1 : W.heap.size ≤ w2.heap.size := g1w.size
  have s2 : w2.heap.size + 1 ≤ w3.heap.size := by have := g2w.size; simpa using this
  have hBl := heap_lt' hr.top
  have hW : ∀ k, k < W.heap.size → some k ≠ (Value.slice cao d.cs.length ccap).ownBlock → w3.heap[k]? = W.heap[k]? := fun k hk hn =>
    (g2w.block k (by simp; omega) hn).trans ((Below.heap_alloc w2 _ _ (by omega)).trans (g1w.block k hk (fun e => by cases e)))
  have hB3 := (hW B hBl hr.ne.2.symm).trans hr.top
  have hoth : ∀ k, k ≠ B → (w3.setCell ⟨B, 1, none⟩ (.slice (some ⟨g2, 0, none⟩) (d.cs.length + 1) cap2)).heap[k]? = w3.heap[k]? := fun k hk => heap_setCell_other _ _ _ _ hk
  obtain ⟨us0, _, h4, _⟩ := hr.cache
  refine ⟨hr.put hus hu5 hs ha (own_of_same o2 (fun k hk => hoth k (fun e => own_not o2 hB3 (by decide) (by rw [hk, e])))) ⟨?_, ?_⟩ (by rw [heap_setCell_same _ _ _ _ _ _ hB3]; rfl) (fun k hk hn hc => (hoth k hn).trans (hW k hk hc)), ?_, ?_⟩
  · have e := own_of_same o1 (fun k hk => ((hoth k (by have := (o1.lt k hk).1; omega)).trans (g2w.block k (by have := (o1.lt k hk).2; simp; omega) (fun e => by have := (h4.lt k e.symm).2; have := (o1.lt k hk).1; omega))).trans (Below.heap_alloc w2 _ _ (o1.lt k hk).2))
    have e2 := own_low e (show base ≤ W.heap.size by have := hr.lo; omega)
    rw [hs]
    simpa using e2
  · intro e
    have := (o1.lt av e).1
    omega
  · intro k hk
    injection hk with hk
    dsimp only at hk
    subst hk
    rcases hat with h | h
    · exact .inl h
    · exact .inr (by rw [h]; simp; omega)
  · exact ⟨g2w.os.trans (g1w.os.trans hg.os), g2w.tape.trans (g1w.tape.trans hg.tape), g2w.output.trans (g1w.output.trans hg.output), by simp; omega, fun k hk h1 h2 h3 => ((hoth k h1).trans (hW k (by omega) h3)).trans (hg.block k hk h1 h2 h3)⟩

set_option maxHeartbeats 2000000 in
set_option maxRecDepth 100000 in
/-- A write that goes on. -/
theorem rwrite_on (w : World) (base B av : Nat) (lv cv : Value) (d1 : Dsk) (a : Nat) (bb boff bcap : Nat) (s : List UInt8) (ha : a < d1.ls.length)
    (hc : Calls Try.prog 109 #[.pointer (some ⟨B, 0, none⟩)] w fun e w' => e = .returned (.int .u16 0) ∧ RD w' base B av lv cv d1 ∧ Gr3 B lv.ownBlock cv.ownBlock w w')
    (hl : s.length = 256) (hs : ∀ w', Gr3 B lv.ownBlock cv.ownBlock w w' → SlC 0 w'.heap.size f8 w' (some ⟨bb, boff, none⟩) bcap s) (hav : av < w.heap.size)
    (hcs : d1.cs.length ≤ 100000000) (hwr : 0 ≤ d1.wr ∧ d1.wr < 4611686018427387904) :
    Calls Try.prog 99 #[.pointer (some ⟨B, 0, none⟩), .int .i64 a, .slice (some ⟨bb, boff, none⟩) 256 bcap] w fun e w' => e = .returned (.int .u16 0) ∧ (∃ cv', RD w' base B av lv cv' { d1 with wr := d1.wr + 1, cs := d1.cs ++ [(a, s)] } ∧ Anew w cv.ownBlock cv'.ownBlock) ∧ Gr3 B lv.ownBlock cv.ownBlock w w' := by
  obtain ⟨i0, hi0, hz0, hz1, hz2⟩ := info_parts info5
  obtain ⟨j0, hj0, hy0, hy1, hy2⟩ := info_parts info256
  have HC := Lib.hid hc
  have HS := Lib.hid hs
  have i1 : (0 : Int) ≤ (a : Int) ∧ (a : Int) < (d1.ls.length : Int) := by omega
  have g1 : decide ((a : Int) < 0) = false := decide_eq_false (by omega)
  have g2 : decide ((d1.ls.length : Int) ≤ (a : Int)) = false := decide_eq_false (by omega)
  have HL := Lib.hid hl
  clear hc hs hl
  go_enter Try.func99, Try.ntmps99
  go_wp2_with (go_at_call 109; refine Calls.mono HC.out ?_; rintro e w1 ⟨rfl, hr1, hgr1⟩; have HR1 := Lib.hid hr1; have HG1 := Lib.hid hgr1; obtain ⟨c0, c1, -, -, -, c5, -, fz⟩ := rd_cells hr1.top; obtain ⟨⟨lao, lcap, hlv⟩, -⟩ := hr1.shape; rw [hlv] at c0; clear hlv hr1 hgr1)
  have hr2 := HR1.out.retop (w' := w1.setCell ⟨B, 5, none⟩ (.int .i64 (d1.wr + 1))) (dark := d1.dark) (trip := d1.trip) (rd := d1.rd) (wr := d1.wr + 1) (fl := d1.fl) (by rw [heap_setCell_same _ _ _ _ _ _ HR1.out.top]; rfl) (fun k hk => heap_setCell_other _ _ _ _ hk)
  have hg2 : Gr3 B lv.ownBlock cv.ownBlock w (w1.setCell ⟨B, 5, none⟩ (.int .i64 (d1.wr + 1))) := HG1.out.trans (retop_gr (w := w1) (w' := w1.setCell ⟨B, 5, none⟩ (.int .i64 (d1.wr + 1))) (B := B) (fun k hk => heap_setCell_other _ _ _ _ hk) rfl rfl rfl (by simp) lv.ownBlock cv.ownBlock) (Anew.refl _ _) (Anew.refl _ _)
  have HR2 := Lib.hid hr2
  have HG2 := Lib.hid hg2
  obtain ⟨-, c1', -, -, -, -, -, fz'⟩ := rd_cells hr2.top
  obtain ⟨-, cao, ccap, hcv⟩ := hr2.shape
  obtain ⟨us, u1, u2, u3⟩ := hr2.cache
  have U2 := Lib.hid u2
  have U3 := Lib.hid u3
  have HN := Lib.hid ((HS.out _ hg2).news)
  have hBl := heap_lt' hr2.top
  have hnb := Lib.hid hr2.ne.2
  have hba := hr2.lo
  clear hr2 hg2 c0 c1 c5 fz HR1 HG1 u2 u3
  generalize w1.setCell ⟨B, 5, none⟩ (.int .i64 (d1.wr + 1)) = W at *
  dsimp only at U2 hcv u1
  subst hcv
  have fB1 := fz' 1
  clear fz'
  have sT : True := True.intro
  refine wp_region_held_drew (S := (fun _ => True)) (by kernel_rfl) sT (fun hHeld => ?_)
  refine wpAnyH_take (i := 0) (oi := ⟨some 37, _, _, _, _, _⟩) (v := (.pointer (some ⟨B, 0, none⟩))) rfl (by kernel_rfl) (by kernel_rfl) (by kernel_rfl) (fun _ _ _ h => h) (Or.inl ⟨by rfl, ?_⟩) (by assumption) ?_
  · intro w' hSw
    go_simp
  try simp only [Act.put, List.setIfInBounds_toArray, List.set_cons_zero, List.set_cons_succ]
  refine wpAnyH_take (i := 1) (oi := ⟨some 38, _, _, _, _, _⟩) (v := (.pointer (some ⟨B, 0, none⟩))) rfl (by kernel_rfl) (by kernel_rfl) (by kernel_rfl) (fun _ _ _ h => h) (Or.inl ⟨by rfl, ?_⟩) (by assumption) ?_
  · intro w' hSw
    go_simp
  try simp only [Act.put, List.setIfInBounds_toArray, List.set_cons_zero, List.set_cons_succ]
  refine wpAnyH_take (i := 2) (oi := ⟨some 39, _, _, _, _, _⟩) (v := (.pointer (some ⟨B, 0, none⟩))) rfl (by kernel_rfl) (by kernel_rfl) (by kernel_rfl) (fun _ _ _ h => h) (Or.inl ⟨by rfl, ?_⟩) (by assumption) ?_
  · intro w' hSw
    go_simp
  try simp only [Act.put, List.setIfInBounds_toArray, List.set_cons_zero, List.set_cons_succ]
  refine wpAnyH_take (i := 3) (oi := ⟨some 40, _, _, _, _, _⟩) (v := (.pointer (some ⟨B, 1, none⟩))) rfl (by kernel_rfl) (by kernel_rfl) (by kernel_rfl) (fun _ _ _ h => h) (Or.inl ⟨by rfl, ?_⟩) (by assumption) ?_
  · intro w' hSw
    go_simp
  try simp only [Act.put, List.setIfInBounds_toArray, List.set_cons_zero, List.set_cons_succ]
  refine wpAnyH_take (i := 5) (oi := ⟨some 42, _, _, _, _, _⟩) (v := (.int .i64 (a : Int))) rfl (by kernel_rfl) (by kernel_rfl) (by kernel_rfl) (fun _ _ _ h => h) (Or.inl ⟨by rfl, ?_⟩) (by assumption) ?_
  · intro w' hSw
    go_simp
  try simp only [Act.put, List.setIfInBounds_toArray, List.set_cons_zero, List.set_cons_succ]
  refine wpAnyH_take (i := 6) (oi := ⟨some 43, _, _, _, _, _⟩) (v := (.slice none 0 0)) rfl (by kernel_rfl) (by kernel_rfl) (by kernel_rfl) (fun _ _ _ h => h) (Or.inl ⟨by rfl, ?_⟩) (by assumption) ?_
  · intro w' hSw
    go_simp
  try simp only [Act.put, List.setIfInBounds_toArray, List.set_cons_zero, List.set_cons_succ]
  refine wpAnyH_take (i := 7) (oi := ⟨some 44, _, _, _, _, _⟩) (v := (.slice (some ⟨bb, boff, none⟩) 256 bcap)) rfl (by kernel_rfl) (by kernel_rfl) (by kernel_rfl) (fun _ _ _ h => h) (Or.inl ⟨by rfl, ?_⟩) (by assumption) ?_
  · intro w' hSw
    go_simp
  try simp only [Act.put, List.setIfInBounds_toArray, List.set_cons_zero, List.set_cons_succ]
  refine wpAnyH_ready (rs := [4, 8]) (by kernel_rfl) (by simp) ?_
  refine AllReadyH.cons (o := ⟨some 41, _, _, _, _, _⟩) rfl (fun K hK => ?_) (AllReadyH.cons (o := ⟨some 45, _, _, _, _, _⟩) rfl (fun K hK => ?_) AllReadyH.nil)
  · go_simp
    refine hK.out _ _ sT (fun _ => ?_)
    clear hK K
    try simp only [Act.put, List.setIfInBounds_toArray, List.set_cons_zero, List.set_cons_succ]
    refine wpAnyH_ready (rs := [8]) (by kernel_rfl) (by simp) ?_
    refine AllReadyH.cons (o := ⟨some 45, _, _, _, _, _⟩) rfl (fun K hK => ?_) AllReadyH.nil
    refine step_append_lies _ rfl (.tmp 43) (.tmp 44) 22 rfl W.heap.size 5 i0 (.int .u8 0) 1 1 Try.underlying22 hi0 hz0 hz1 hz2 rfl (by decide) (.slice none 0 0) 0 [] rfl (World.ownsRow_nil _ _ _ _) ⟨bb, boff, none⟩ 256 bcap (s.map f8) rfl (by rw [List.length_map, HL.out]) (fun j u hu => HN.out _ rfl j u hu) (f8_one _) (by decide) (by decide) (by decide) (Nat.le_refl _) W.heap.size rfl ?_
    intro g1 cap1 w2 hown1 hgrow1 hat1 hlt1
    have HO1 := Lib.hid hown1
    have HGR1 := Lib.hid hgrow1
    have HU2 := Lib.hid (own_of_same U2.out (fun k hk => hgrow1.block k (U2.out.lt k hk).2 (fun e => by cases e)) : w2.ownsRow base 256 2 (.slice cao d1.cs.length ccap) d1.cs.length _)
    have z1 : w2.cell? ⟨B, 1, none⟩ = some (.slice cao d1.cs.length ccap) := (World.cell?_of_block (a := ⟨B, 1, none⟩) (hgrow1.block B hBl (fun e => by cases e))).trans c1'
    have z2 : w2.frozen? ⟨B, 1, none⟩ = false := (World.frozen?_of_block (a := ⟨B, 1, none⟩) (hgrow1.block B hBl (fun e => by cases e))).trans fB1
    have hs2 : W.heap.size ≤ w2.heap.size := hgrow1.size
    clear hown1 hgrow1 hat1
    refine hK.out _ _ sT (fun _ => ?_)
    clear hK K
    try simp only [Act.put, List.setIfInBounds_toArray, List.set_cons_zero, List.set_cons_succ]
    refine wpAnyH_take (i := 9) (oi := ⟨some 46, _, _, _, _, _⟩) (v := (.agg #[.int .i64 (a : Int), .slice (some ⟨g1, 0, none⟩) (0 + 256) cap1])) rfl (by kernel_rfl) (by kernel_rfl) (by kernel_rfl) (fun _ _ _ h => h) (Or.inl ⟨by rfl, ?_⟩) (by assumption) ?_
    · intro w' hSw
      go_simp
    try simp only [Act.put, List.setIfInBounds_toArray, List.set_cons_zero, List.set_cons_succ]
    refine wpAnyH_ready (rs := [10]) (by kernel_rfl) (by simp) ?_
    refine AllReadyH.cons (o := ⟨some 47, _, _, _, _, _⟩) rfl (fun K hK => ?_) AllReadyH.nil
    go_simp
    refine hK.out _ _ sT (fun _ => ?_)
    clear hK K
    try simp only [Act.put, List.setIfInBounds_toArray, List.set_cons_zero, List.set_cons_succ]
    refine wpAnyH_ready (rs := [11]) (by kernel_rfl) (by simp) ?_
    refine AllReadyH.cons (o := ⟨some 48, _, _, _, _, _⟩) rfl (fun K hK => ?_) AllReadyH.nil
    refine step_append_lies _ rfl (.tmp 41) (.tmp 47) 174 rfl base 256 j0 _ 2 32 und174 hj0 hy0 hy1 hy2 rfl (by decide) (.slice cao d1.cs.length ccap) d1.cs.length _ rfl (own_of_same HU2.out (fun k hk => Below.heap_alloc _ _ _ (HU2.out.lt k hk).2)) ⟨w2.heap.size, 0, none⟩ 1 1 [.int .i64 (a : Int), .slice (some ⟨g1, 0, none⟩) (0 + 256) cap1] rfl rfl (news_alloc w2 [.int .i64 (a : Int), .slice (some ⟨g1, 0, none⟩) (0 + 256) cap1] 256) (by intro u hu; simp at hu; rcases hu with rfl | rfl <;> rfl) (by decide) (by unfold maxLen; omega) (by omega) (by simp; omega) _ rfl ?_
    intro g2 cap2 w3 hown2 hgrow2 hat2 hlt2
    have HO2 := Lib.hid hown2
    have HGR2 := Lib.hid hgrow2
    have HAT2 := Lib.hid hat2
    have hBB := hgrow2.block B (by simp; omega) (fun e => hnb.out e.symm)
    have hBB2 := hBB.trans (Below.heap_alloc w2 _ _ (show B < w2.heap.size by omega))
    have z3 : w3.cell? ⟨B, 1, none⟩ = some (.slice cao d1.cs.length ccap) := (World.cell?_of_block (a := ⟨B, 1, none⟩) hBB2).trans z1
    have z4 : w3.frozen? ⟨B, 1, none⟩ = false := (World.frozen?_of_block (a := ⟨B, 1, none⟩) hBB2).trans z2
    clear hBB hBB2 hown2 hgrow2 hat2
    refine hK.out _ _ sT (fun _ => ?_)
    clear hK K
    try simp only [Act.put, List.setIfInBounds_toArray, List.set_cons_zero, List.set_cons_succ]
    refine wpAnyH_take (i := 12) (oi := ⟨some 49, _, _, _, _, _⟩) (v := (.pointer (some ⟨B, 0, none⟩))) rfl (by kernel_rfl) (by kernel_rfl) (by kernel_rfl) (fun _ _ _ h => h) (Or.inl ⟨by rfl, ?_⟩) (by assumption) ?_
    · intro w' hSw
      go_simp
    try simp only [Act.put, List.setIfInBounds_toArray, List.set_cons_zero, List.set_cons_succ]
    refine wpAnyH_take (i := 13) (oi := ⟨some 50, _, _, _, _, _⟩) (v := (.pointer (some ⟨B, 1, none⟩))) rfl (by kernel_rfl) (by kernel_rfl) (by kernel_rfl) (fun _ _ _ h => h) (Or.inl ⟨by rfl, ?_⟩) (by assumption) ?_
    · intro w' hSw
      go_simp
    try simp only [Act.put, List.setIfInBounds_toArray, List.set_cons_zero, List.set_cons_succ]
    refine wpAnyH_ready (rs := [14]) (by kernel_rfl) (by simp) ?_
    refine AllReadyH.cons (o := ⟨none, _, _, _, _, _⟩) rfl (fun K hK => ?_) AllReadyH.nil
    go_simp
    refine hK.out _ _ sT (fun _ => ?_)
    clear hK K
    try simp only [Act.put, List.setIfInBounds_toArray, List.set_cons_zero, List.set_cons_succ]
    refine wpAnyH_done (by kernel_rfl) ?_ _
    go_wp2
    go_ret
    obtain ⟨f1, f2, f3⟩ := write_end (d := { d1 with wr := d1.wr + 1 }) HR2.out u1 U3.out HL.out ha HG2.out hav HGR1.out HO1.out HGR2.out HAT2.out HO2.out
    exact ⟨rfl, ⟨_, f1, f2⟩, f3⟩
  · refine step_append_lies _ rfl (.tmp 43) (.tmp 44) 22 rfl W.heap.size 5 i0 (.int .u8 0) 1 1 Try.underlying22 hi0 hz0 hz1 hz2 rfl (by decide) (.slice none 0 0) 0 [] rfl (World.ownsRow_nil _ _ _ _) ⟨bb, boff, none⟩ 256 bcap (s.map f8) rfl (by rw [List.length_map, HL.out]) (fun j u hu => HN.out _ rfl j u hu) (f8_one _) (by decide) (by decide) (by decide) (Nat.le_refl _) W.heap.size rfl ?_
    intro g1 cap1 w2 hown1 hgrow1 hat1 hlt1
    have HO1 := Lib.hid hown1
    have HGR1 := Lib.hid hgrow1
    have HU2 := Lib.hid (own_of_same U2.out (fun k hk => hgrow1.block k (U2.out.lt k hk).2 (fun e => by cases e)) : w2.ownsRow base 256 2 (.slice cao d1.cs.length ccap) d1.cs.length _)
    have z1 : w2.cell? ⟨B, 1, none⟩ = some (.slice cao d1.cs.length ccap) := (World.cell?_of_block (a := ⟨B, 1, none⟩) (hgrow1.block B hBl (fun e => by cases e))).trans c1'
    have z2 : w2.frozen? ⟨B, 1, none⟩ = false := (World.frozen?_of_block (a := ⟨B, 1, none⟩) (hgrow1.block B hBl (fun e => by cases e))).trans fB1
    have hs2 : W.heap.size ≤ w2.heap.size := hgrow1.size
    clear hown1 hgrow1 hat1
    refine hK.out _ _ sT (fun _ => ?_)
    clear hK K
    try simp only [Act.put, List.setIfInBounds_toArray, List.set_cons_zero, List.set_cons_succ]
    refine wpAnyH_take (i := 9) (oi := ⟨some 46, _, _, _, _, _⟩) (v := (.agg #[.int .i64 (a : Int), .slice (some ⟨g1, 0, none⟩) (0 + 256) cap1])) rfl (by kernel_rfl) (by kernel_rfl) (by kernel_rfl) (fun _ _ _ h => h) (Or.inl ⟨by rfl, ?_⟩) (by assumption) ?_
    · intro w' hSw
      go_simp
    try simp only [Act.put, List.setIfInBounds_toArray, List.set_cons_zero, List.set_cons_succ]
    refine wpAnyH_ready (rs := [4, 10]) (by kernel_rfl) (by simp) ?_
    refine AllReadyH.cons (o := ⟨some 41, _, _, _, _, _⟩) rfl (fun K hK => ?_) (AllReadyH.cons (o := ⟨some 47, _, _, _, _, _⟩) rfl (fun K hK => ?_) AllReadyH.nil)
    · go_simp
      refine hK.out _ _ sT (fun _ => ?_)
      clear hK K
      try simp only [Act.put, List.setIfInBounds_toArray, List.set_cons_zero, List.set_cons_succ]
      refine wpAnyH_ready (rs := [10]) (by kernel_rfl) (by simp) ?_
      refine AllReadyH.cons (o := ⟨some 47, _, _, _, _, _⟩) rfl (fun K hK => ?_) AllReadyH.nil
      go_simp
      refine hK.out _ _ sT (fun _ => ?_)
      clear hK K
      try simp only [Act.put, List.setIfInBounds_toArray, List.set_cons_zero, List.set_cons_succ]
      refine wpAnyH_ready (rs := [11]) (by kernel_rfl) (by simp) ?_
      refine AllReadyH.cons (o := ⟨some 48, _, _, _, _, _⟩) rfl (fun K hK => ?_) AllReadyH.nil
      refine step_append_lies _ rfl (.tmp 41) (.tmp 47) 174 rfl base 256 j0 _ 2 32 und174 hj0 hy0 hy1 hy2 rfl (by decide) (.slice cao d1.cs.length ccap) d1.cs.length _ rfl (own_of_same HU2.out (fun k hk => Below.heap_alloc _ _ _ (HU2.out.lt k hk).2)) ⟨w2.heap.size, 0, none⟩ 1 1 [.int .i64 (a : Int), .slice (some ⟨g1, 0, none⟩) (0 + 256) cap1] rfl rfl (news_alloc w2 [.int .i64 (a : Int), .slice (some ⟨g1, 0, none⟩) (0 + 256) cap1] 256) (by intro u hu; simp at hu; rcases hu with rfl | rfl <;> rfl) (by decide) (by unfold maxLen; omega) (by omega) (by simp; omega) _ rfl ?_
      intro g2 cap2 w3 hown2 hgrow2 hat2 hlt2
      have HO2 := Lib.hid hown2
      have HGR2 := Lib.hid hgrow2
      have HAT2 := Lib.hid hat2
      have hBB := hgrow2.block B (by simp; omega) (fun e => hnb.out e.symm)
      have hBB2 := hBB.trans (Below.heap_alloc w2 _ _ (show B < w2.heap.size by omega))
      have z3 : w3.cell? ⟨B, 1, none⟩ = some (.slice cao d1.cs.length ccap) := (World.cell?_of_block (a := ⟨B, 1, none⟩) hBB2).trans z1
      have z4 : w3.frozen? ⟨B, 1, none⟩ = false := (World.frozen?_of_block (a := ⟨B, 1, none⟩) hBB2).trans z2
      clear hBB hBB2 hown2 hgrow2 hat2
      refine hK.out _ _ sT (fun _ => ?_)
      clear hK K
      try simp only [Act.put, List.setIfInBounds_toArray, List.set_cons_zero, List.set_cons_succ]
      refine wpAnyH_take (i := 12) (oi := ⟨some 49, _, _, _, _, _⟩) (v := (.pointer (some ⟨B, 0, none⟩))) rfl (by kernel_rfl) (by kernel_rfl) (by kernel_rfl) (fun _ _ _ h => h) (Or.inl ⟨by rfl, ?_⟩) (by assumption) ?_
      · intro w' hSw
        go_simp
      try simp only [Act.put, List.setIfInBounds_toArray, List.set_cons_zero, List.set_cons_succ]
      refine wpAnyH_take (i := 13) (oi := ⟨some 50, _, _, _, _, _⟩) (v := (.pointer (some ⟨B, 1, none⟩))) rfl (by kernel_rfl) (by kernel_rfl) (by kernel_rfl) (fun _ _ _ h => h) (Or.inl ⟨by rfl, ?_⟩) (by assumption) ?_
      · intro w' hSw
        go_simp
      try simp only [Act.put, List.setIfInBounds_toArray, List.set_cons_zero, List.set_cons_succ]
      refine wpAnyH_ready (rs := [14]) (by kernel_rfl) (by simp) ?_
      refine AllReadyH.cons (o := ⟨none, _, _, _, _, _⟩) rfl (fun K hK => ?_) AllReadyH.nil
      go_simp
      refine hK.out _ _ sT (fun _ => ?_)
      clear hK K
      try simp only [Act.put, List.setIfInBounds_toArray, List.set_cons_zero, List.set_cons_succ]
      refine wpAnyH_done (by kernel_rfl) ?_ _
      go_wp2
      go_ret
      obtain ⟨f1, f2, f3⟩ := write_end (d := { d1 with wr := d1.wr + 1 }) HR2.out u1 U3.out HL.out ha HG2.out hav HGR1.out HO1.out HGR2.out HAT2.out HO2.out
      exact ⟨rfl, ⟨_, f1, f2⟩, f3⟩
    · go_simp
      refine hK.out _ _ sT (fun _ => ?_)
      clear hK K
      try simp only [Act.put, List.setIfInBounds_toArray, List.set_cons_zero, List.set_cons_succ]
      have z5 := cell_alloc (o := .cells #[.int .i64 (a : Int), .slice (some ⟨g1, 0, none⟩) 256 cap1] 256) z1
      refine wpAnyH_ready (rs := [4]) (by kernel_rfl) (by simp) ?_
      refine AllReadyH.cons (o := ⟨some 41, _, _, _, _, _⟩) rfl (fun K hK => ?_) AllReadyH.nil
      go_simp
      refine hK.out _ _ sT (fun _ => ?_)
      clear hK K
      try simp only [Act.put, List.setIfInBounds_toArray, List.set_cons_zero, List.set_cons_succ]
      refine wpAnyH_ready (rs := [11]) (by kernel_rfl) (by simp) ?_
      refine AllReadyH.cons (o := ⟨some 48, _, _, _, _, _⟩) rfl (fun K hK => ?_) AllReadyH.nil
      refine step_append_lies _ rfl (.tmp 41) (.tmp 47) 174 rfl base 256 j0 _ 2 32 und174 hj0 hy0 hy1 hy2 rfl (by decide) (.slice cao d1.cs.length ccap) d1.cs.length _ rfl (own_of_same HU2.out (fun k hk => Below.heap_alloc _ _ _ (HU2.out.lt k hk).2)) ⟨w2.heap.size, 0, none⟩ 1 1 [.int .i64 (a : Int), .slice (some ⟨g1, 0, none⟩) (0 + 256) cap1] rfl rfl (news_alloc w2 [.int .i64 (a : Int), .slice (some ⟨g1, 0, none⟩) (0 + 256) cap1] 256) (by intro u hu; simp at hu; rcases hu with rfl | rfl <;> rfl) (by decide) (by unfold maxLen; omega) (by omega) (by simp; omega) _ rfl ?_
      intro g2 cap2 w3 hown2 hgrow2 hat2 hlt2
      have HO2 := Lib.hid hown2
      have HGR2 := Lib.hid hgrow2
      have HAT2 := Lib.hid hat2
      have hBB := hgrow2.block B (by simp; omega) (fun e => hnb.out e.symm)
      have hBB2 := hBB.trans (Below.heap_alloc w2 _ _ (show B < w2.heap.size by omega))
      have z3 : w3.cell? ⟨B, 1, none⟩ = some (.slice cao d1.cs.length ccap) := (World.cell?_of_block (a := ⟨B, 1, none⟩) hBB2).trans z1
      have z4 : w3.frozen? ⟨B, 1, none⟩ = false := (World.frozen?_of_block (a := ⟨B, 1, none⟩) hBB2).trans z2
      clear hBB hBB2 hown2 hgrow2 hat2
      refine hK.out _ _ sT (fun _ => ?_)
      clear hK K
      try simp only [Act.put, List.setIfInBounds_toArray, List.set_cons_zero, List.set_cons_succ]
      refine wpAnyH_take (i := 12) (oi := ⟨some 49, _, _, _, _, _⟩) (v := (.pointer (some ⟨B, 0, none⟩))) rfl (by kernel_rfl) (by kernel_rfl) (by kernel_rfl) (fun _ _ _ h => h) (Or.inl ⟨by rfl, ?_⟩) (by assumption) ?_
      · intro w' hSw
        go_simp
      try simp only [Act.put, List.setIfInBounds_toArray, List.set_cons_zero, List.set_cons_succ]
      refine wpAnyH_take (i := 13) (oi := ⟨some 50, _, _, _, _, _⟩) (v := (.pointer (some ⟨B, 1, none⟩))) rfl (by kernel_rfl) (by kernel_rfl) (by kernel_rfl) (fun _ _ _ h => h) (Or.inl ⟨by rfl, ?_⟩) (by assumption) ?_
      · intro w' hSw
        go_simp
      try simp only [Act.put, List.setIfInBounds_toArray, List.set_cons_zero, List.set_cons_succ]
      refine wpAnyH_ready (rs := [14]) (by kernel_rfl) (by simp) ?_
      refine AllReadyH.cons (o := ⟨none, _, _, _, _, _⟩) rfl (fun K hK => ?_) AllReadyH.nil
      go_simp
      refine hK.out _ _ sT (fun _ => ?_)
      clear hK K
      try simp only [Act.put, List.setIfInBounds_toArray, List.set_cons_zero, List.set_cons_succ]
      refine wpAnyH_done (by kernel_rfl) ?_ _
      go_wp2
      go_ret
      obtain ⟨f1, f2, f3⟩ := write_end (d := { d1 with wr := d1.wr + 1 }) HR2.out u1 U3.out HL.out ha HG2.out hav HGR1.out HO1.out HGR2.out HAT2.out HO2.out
      exact ⟨rfl, ⟨_, f1, f2⟩, f3⟩
end Go.Proofs.Ytnplcfgjidolbaa
end
section
namespace Go.Proofs.Ytnplcfgjidolbaa
open Go.RowKit

/-- A write. -/
theorem rwrite_any (w : World) (base B av : Nat) (lv cv bv : Value) (d : Dsk) (a : Int) (s : List UInt8) (h : RD w base B av lv cv d) (hd : Small d) (ht : -9223372036854775808 ≤ d.trip)
    (hs : ∀ w', Gr3 B lv.ownBlock cv.ownBlock w w' → Sl 0 w'.heap.size f8 w' bv s) (hav : av < w.heap.size) :
    Calls Try.prog 99 #[.pointer (some ⟨B, 0, none⟩), .int .i64 a, bv] w fun e w' => e = .returned (.int .u16 (d.put a s).2) ∧ (∃ cv', RD w' base B av lv cv' (d.put a s).1 ∧ Anew w cv.ownBlock cv'.ownBlock) ∧ Gr3 B lv.ownBlock cv.ownBlock w w' := by
  have hc := rbegins_any h ⟨ht, hd.trip⟩
  obtain ⟨l1, l2⟩ := begins_len d
  obtain ⟨_, l3, _⟩ := begins_same d
  rw [put_eq]
  cases hb : (d.begins).2 with
  | false =>
    rw [if_pos rfl]
    rw [hb] at hc
    exact (rwrite_off w base B av lv cv bv _ a hc).mono fun e w' ⟨h1, h2, h3⟩ => ⟨h1, ⟨cv, h2, Anew.refl _ _⟩, h3⟩
  | true =>
    rw [if_neg (by simp)]
    rw [hb] at hc
    unfold Dsk.puts
    by_cases ha : a < 0 ∨ (d.ls.length : Int) ≤ a
    · rw [if_pos (by simp only [l1]; exact ha)]
      exact (rwrite_out w base B av lv cv bv _ a (by rw [l1]; exact ha) hc (by rw [l3]; exact hd.wr)).mono fun e w' ⟨h1, h2, h3⟩ => ⟨h1, ⟨cv, h2, Anew.refl _ _⟩, h3⟩
    · rw [if_neg (by simp only [l1]; exact ha)]
      obtain ⟨m, rfl⟩ := Int.eq_ofNat_of_zero_le (show 0 ≤ a by omega)
      obtain ⟨ao, cap, rfl, _⟩ := hs w (Gr3.refl _ _ _ _)
      by_cases hl : s.length = 256
      · rw [if_neg (by omega)]
        have hcell : ∃ b off, ao = some ⟨b, off, none⟩ := by
          obtain ⟨a2, c2, he, hsl⟩ := hs w (Gr3.refl _ _ _ _)
          injection he with h1 _ h3
          subst h1 h3
          obtain ⟨b, off, e, _⟩ := hsl.cells (by intro e; subst e; simp at hl)
          exact ⟨b, off, e⟩
        obtain ⟨bb, boff, rfl⟩ := hcell
        have h2 := rwrite_on w base B av lv cv _ m bb boff cap s (by rw [l1]; omega) hc hl (fun w' hw => by
          obtain ⟨a2, c2, he, hsl⟩ := hs w' hw
          injection he with h1 _ h3
          subst h1 h3
          exact hsl) hav (by rw [l2]; exact hd.cs) (by rw [l3]; exact hd.wr)
        rw [hl]
        exact h2
      · rw [if_pos hl]
        exact (rwrite_len w base B av lv cv _ m ao s.length cap hl (by rw [l1]; omega) hc (by rw [l3]; exact hd.wr)).mono fun e w' ⟨h1, h2, h3⟩ => ⟨h1, ⟨cv, h2, Anew.refl _ _⟩, h3⟩

/-- The reference's rows lie apart from a block that is new. -/
theorem RD.reav {w : World} {base B av : Nat} {lv cv : Value} {d : Dsk} (h : RD w base B av lv cv d) (av' : Nat) (hav : w.heap.size ≤ av') : RD w base B av' lv cv d := by
  have key : ∀ {u : Value} {s : List UInt8}, Rb w base av u s → Rb w base av' u s := fun hu => ⟨hu.1, fun e => by have := (hu.1.lt av' e).2; omega⟩
  obtain ⟨vs, h1, h2⟩ := h.las
  obtain ⟨us, h3, h4, h5⟩ := h.cache
  exact ⟨h.top, ⟨vs, h1, fun i u s hu hs => key (h2 i u s hu hs)⟩, ⟨us, h3, h4, fun i u c hu hc => key (h5 i u c hu hc)⟩, h.ok, h.lo⟩
/-- What leaves blocks of the reference's types as they were leaves the reference as it was. -/
theorem RD.types {w w' : World} {base B av : Nat} {lv cv : Value} {d : Dsk} (h : RD w base B av lv cv d) (hs : ∀ (k : Nat) cs t, w.heap[k]? = some (.cells cs t (0, 0)) → (t = 176 ∨ t = 22 ∨ t = 256 ∨ (t = 5 ∧ k ≠ av)) → w'.heap[k]? = w.heap[k]?) : RD w' base B av lv cv d := by
  have key : ∀ {e : TypeId} {s : Nat} {v : Value} {n : Nat} {xs : List Value}, w.ownsRow base e s v n xs → (e = 22 ∨ e = 256 ∨ (e = 5 ∧ v.ownBlock ≠ some av)) → w'.ownsRow base e s v n xs := fun hv he =>
    own_of_same hv (fun k hk => by
      obtain ⟨cs, hc⟩ := own_block hv k hk
      refine hs k cs _ hc ?_
      rcases he with e | e | ⟨e, hne⟩
      · exact .inr (.inl e)
      · exact .inr (.inr (.inl e))
      · exact .inr (.inr (.inr ⟨e, fun e2 => hne (by rw [hk, e2])⟩)))
  obtain ⟨vs, h1, h2⟩ := h.las
  obtain ⟨us, h3, h4, h5⟩ := h.cache
  exact ⟨(hs B _ _ h.top (.inl rfl)).trans h.top, ⟨vs, key h1 (.inl rfl), fun i u s hu hss => ⟨key (h2 i u s hu hss).1 (.inr (.inr ⟨rfl, (h2 i u s hu hss).2⟩)), (h2 i u s hu hss).2⟩⟩,
    ⟨us, h3, key h4 (.inr (.inl rfl)), fun i u c hu hc => ⟨key (h5 i u c hu hc).1 (.inr (.inr ⟨rfl, (h5 i u c hu hc).2⟩)), (h5 i u c hu hc).2⟩⟩, h.ok, h.lo⟩
/-- The program's operations leave the reference as it was. -/
theorem RD.dfr {w w' : World} {base b1 B av : Nat} {lv cv : Value} {d : Dsk} (h : RD w base B av lv cv d) (f : Dfr b1 w w') : RD w' base B av lv cv d :=
  h.types fun k cs t hk ht => f.keep k cs t _ hk (by rintro rfl; simp at ht) (by rintro rfl; simp at ht) (by rintro rfl; simp at ht)
end Go.Proofs.Ytnplcfgjidolbaa
end
section
namespace Go.Proofs.Ytnplcfgjidolbaa.Bt

/-- From the bit at_ on, group i on: an error's number, or the number and where it ends. -/
def rvg (U : List Bool) : Nat → Nat → Nat → Nat → Nat ⊕ (Nat × Nat)
  | 0, _, _, _ => .inl 21
  | f + 1, i, at_, acc =>
    if U.length < at_ + 8 then .inl 20
    else if i = 9 ∧ 1 < val ((U.drop at_).take 8) then .inl 21
    else if val ((U.drop at_).take 8) < 128 then (if 0 < i ∧ val ((U.drop at_).take 8) = 0 then .inl 21 else .inr (acc + val ((U.drop at_).take 8) % 128 * 128 ^ i, at_ + 8))
    else rvg U f (i + 1) (at_ + 8) (acc + val ((U.drop at_).take 8) % 128 * 128 ^ i)
def rv (U : List Bool) (at_ : Nat) : Nat ⊕ (Nat × Nat) := rvg U 10 0 at_ 0
end Go.Proofs.Ytnplcfgjidolbaa.Bt
end
