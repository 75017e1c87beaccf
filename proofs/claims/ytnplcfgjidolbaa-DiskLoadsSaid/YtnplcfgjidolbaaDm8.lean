/- The reference's disk: its cells told one by one; Trip, Pending, Image. The reference's disk: Image, Read. The reference's disk: a lasting sector is set; Flush, Cut. -/
import Derived.Test.YtnplcfgjidolbaaDm7
section
namespace Go.Proofs.Ytnplcfgjidolbaa
open Go.RowKit

/-- The cache's cells. -/
def wr2s (cs : List (Nat × List UInt8)) (us : List Value) : List Value := ((cs.map (·.1)).zip us).flatMap wr2
theorem wr2s_get : ∀ (cs : List (Nat × List UInt8)) (us : List Value) (k : Nat) (c : Nat × List UInt8) (u : Value), cs[k]? = some c → us[k]? = some u →
    (wr2s cs us)[k * 2]? = some (.int .i64 (c.1 : Int)) ∧ (wr2s cs us)[k * 2 + 1]? = some u
  | [], _, _, _, _, h, _ => by simp at h
  | _ :: _, [], _, _, _, _, h => by simp at h
  | b :: cs, x :: us, 0, c, u, h1, h2 => by
    simp at h1 h2
    subst h1 h2
    exact ⟨rfl, rfl⟩
  | b :: cs, x :: us, k + 1, c, u, h1, h2 => by
    simp at h1 h2
    have ih := wr2s_get cs us k c u h1 h2
    have e : wr2s (b :: cs) (x :: us) = wr2 (b.1, x) ++ wr2s cs us := by simp [wr2s]
    have hl : (wr2 (b.1, x)).length = 2 := rfl
    rw [e]
    rw [List.getElem?_append_right (by omega), List.getElem?_append_right (by omega), hl, show (k + 1) * 2 - 2 = k * 2 by omega, show (k + 1) * 2 + 1 - 2 = k * 2 + 1 by omega]
    exact ih
section
variable {w w' : World} {base B av : Nat} {lv cv : Value} {d : Dsk}
/-- The disk's blocks are as they were. -/
theorem RD.other (h : RD w base B av lv cv d) (hs : ∀ k, (k = B ∨ lv.ownBlock = some k ∨ cv.ownBlock = some k ∨ k ≠ av) → k < w.heap.size → w'.heap[k]? = w.heap[k]?) : RD w' base B av lv cv d := by
  obtain ⟨vs, h1, h2⟩ := h.las
  obtain ⟨us, h3, h4, h5⟩ := h.cache
  exact ⟨(hs B (.inl rfl) (heap_lt' h.top)).trans h.top, ⟨vs, own_of_same h1 (fun k hk => hs k (.inr (.inl hk)) (h1.lt k hk).2), fun i u s hu hss => (h2 i u s hu hss).same (fun k hk => hs k (.inr (.inr (.inr (fun e => (h2 i u s hu hss).2 (by rw [hk, e]))))) ((h2 i u s hu hss).1.lt k hk).2)⟩,
    ⟨us, h3, own_of_same h4 (fun k hk => hs k (.inr (.inr (.inl hk))) (h4.lt k hk).2), fun i u c hu hc => (h5 i u c hu hc).same (fun k hk => hs k (.inr (.inr (.inr (fun e => (h5 i u c hu hc).2 (by rw [hk, e]))))) ((h5 i u c hu hc).1.lt k hk).2)⟩, h.ok, h.lo⟩
theorem RD.below (h : RD w base B av lv cv d) (hb : Below w.heap.size w w') : RD w' base B av lv cv d := h.other fun k _ hk => hb.block k hk
/-- A lasting sector. -/
theorem RD.sector (h : RD w base B av lv cv d) (k : Nat) (hk : k < d.ls.length) : ∃ g cap u, lv = .slice (some ⟨g, 0, none⟩) d.ls.length cap ∧ w.cell? ⟨g, k, none⟩ = some u ∧ Rb w base av u d.ls[k] ∧ base ≤ g := by
  obtain ⟨vs, h1, h2⟩ := h.las
  obtain ⟨g, cap, hv, hb, _⟩ := own_shape h1 (by omega)
  have hl : vs.length = d.ls.length := by have := h1.1; omega
  subst hv
  have hc := h1.cellAt k (by omega)
  have hu : vs[k]? = some vs[k] := List.getElem?_eq_getElem (by omega)
  exact ⟨g, cap, vs[k], rfl, hc.trans hu, h2 k _ _ hu (List.getElem?_eq_getElem hk), hb⟩
/-- A write of the cache. -/
theorem RD.write (h : RD w base B av lv cv d) (k : Nat) (hk : k < d.cs.length) : ∃ g cap u, cv = .slice (some ⟨g, 0, none⟩) d.cs.length cap ∧ w.cell? ⟨g, k * 2, none⟩ = some (.int .i64 (d.cs[k].1 : Int)) ∧ w.cell? ⟨g, k * 2 + 1, none⟩ = some u ∧ Rb w base av u d.cs[k].2 ∧ base ≤ g := by
  obtain ⟨us, h3, h4, h5⟩ := h.cache
  obtain ⟨g, cap, hv, hb, _⟩ := own_shape h4 (by omega)
  subst hv
  have hu : us[k]? = some us[k] := List.getElem?_eq_getElem (by omega)
  obtain ⟨e1, e2⟩ := wr2s_get d.cs us k _ _ (List.getElem?_eq_getElem hk) hu
  exact ⟨g, cap, us[k], rfl, (h4.cellAt (k * 2) (by omega)).trans e1, (h4.cellAt (k * 2 + 1) (by omega)).trans e2, h5 k _ _ hu (List.getElem?_eq_getElem hk), hb⟩
theorem RD.shape (h : RD w base B av lv cv d) : (∃ ao cap, lv = .slice ao d.ls.length cap) ∧ ∃ ao cap, cv = .slice ao d.cs.length cap := by
  obtain ⟨vs, h1, _⟩ := h.las
  obtain ⟨us, _, h4, _⟩ := h.cache
  exact ⟨own_slice h1, own_slice h4⟩

set_option maxRecDepth 100000 in
/-- A trip. -/
theorem rtrip_any (h : RD w base B av lv cv d) (n : Int) : Calls Try.prog 108 #[.pointer (some ⟨B, 0, none⟩), .int .i64 n] w fun e w' => e = .returned (.int .u16 (d.tripped n).2) ∧ RD w' base B av lv cv (d.tripped n).1 ∧ Gr3 B lv.ownBlock cv.ownBlock w w' := by
  obtain ⟨c0, c1, c2, c3, c4, c5, c6, fz⟩ := rd_cells h.top
  have HD := Lib.hid h
  clear h
  unfold Dsk.tripped
  by_cases hn : n < 0
  · rw [if_pos hn]
    go_enter Try.func108, Try.ntmps108
    go_wp2
    go_ret
    exact ⟨rfl, HD.out, Gr3.refl _ _ _ _⟩
  · rw [if_neg hn]
    have hn0 : 0 ≤ n := by omega
    cases hd : d.dark
    · rw [hd] at c2
      go_enter Try.func108, Try.ntmps108
      go_wp2
      go_ret
      have hoth : ∀ k, k ≠ B → (w.setCell ⟨B, 3, none⟩ (.int .i64 n)).heap[k]? = w.heap[k]? := fun k hk => heap_setCell_other _ _ _ _ hk
      refine ⟨rfl, ?_, retop_gr hoth rfl rfl rfl (by simp) _ _⟩
      have q := HD.out.retop (w' := w.setCell ⟨B, 3, none⟩ (.int .i64 n)) (dark := false) (trip := n) (rd := d.rd) (wr := d.wr) (fl := d.fl) (by rw [heap_setCell_same _ _ _ _ _ _ HD.out.top]; unfold rdTop; rw [hd]; rfl) hoth
      exact q
    · rw [hd] at c2
      go_enter Try.func108, Try.ntmps108
      go_wp2
      go_ret
      exact ⟨rfl, by simpa using HD.out, Gr3.refl _ _ _ _⟩
end
set_option maxHeartbeats 1000000 in
set_option maxRecDepth 100000 in
theorem rpending_any (w : World) (base B av : Nat) (lv cv : Value) (d : Dsk) (h : RD w base B av lv cv d) (hd : d.cs.length ≤ 100000000) :
    Calls Try.prog 106 #[.pointer (some ⟨B, 0, none⟩)] w fun e w' => ∃ v, e = .returned v ∧ w'.ownsRow w.heap.size 3 1 v d.cs.length (d.cs.map fun c => fN c.1) ∧ Below w.heap.size w w' := by
  obtain ⟨c0, c1, _, _, _, _, _, fz⟩ := rd_cells h.top
  obtain ⟨_, av1, cc, rfl⟩ := h.shape
  obtain ⟨j0, hj0, hy0, hy1, hy2⟩ := info_parts info3
  have HD := Lib.hid h
  clear h c0
  go_enter Try.func106, Try.ntmps106
  go_wp2
  go_loopw [3, 4] (fun o i wr => ∃ k : Nat, k ≤ d.cs.length ∧ i = .int .i64 k ∧ wr.ownsRow w.heap.size 3 1 o k ((d.cs.take k).map fun c => fN c.1) ∧ Below w.heap.size w wr) (fun _ i _ => d.cs.length - (intOf i).toNat)
  case atStart => exact ⟨0, Nat.zero_le _, rfl, by simpa using World.ownsRow_nil _ _ _ _, Below.refl _ _⟩
  case round =>
    obtain ⟨k, hk, rfl, hown, hbel⟩ := hrel
    have HO := Lib.hid hown
    have HBL := Lib.hid hbel
    have hs0 := hbel.size
    have hdk := HD.out.below hbel
    obtain ⟨_, e1, _, _, _, _, _, _⟩ := rd_cells hdk.top
    by_cases hlt : k < d.cs.length
    · obtain ⟨g, cap, u, hcv, q1, q2, _, _⟩ := hdk.write k hlt
      injection hcv with hcv1 _ hcv2
      subst hcv1 hcv2
      have htk := List.take_succ_eq_append_getElem hlt
      generalize hc : d.cs[k] = c at *
      have hlw : (0 : Int) ≤ (k : Int) ∧ (k : Int) < (d.cs.length : Int) := by omega
      have HTK := Lib.hid htk
      clear hdk hown hbel htk hc
      go_wp2_with (at_builtin; refine wpList_append_stay _ rfl (.tmp 14) (.tmp 23) 96 rfl w.heap.size 3 j0 (.int .i64 0) 8 und96 hj0 hy0 hy1 hy2 rfl _ k _ rfl (HO.out.alloc _) ⟨wr.heap.size, 0, none⟩ 1 (.int .i64 (c.1 : Int)) rfl (news_alloc wr [.int .i64 (c.1 : Int)] 3) rfl (by unfold maxLen; omega) (by omega) (by simp; omega) ?_; intro g2 cap2 w3 hown3 hst3 hgl; have HO3 := Lib.hid hown3; have HS3 := Lib.hid hst3; clear hown3 hst3)
      go_roundw
      case rel =>
        refine ⟨k + 1, by omega, by push_cast; rfl, ?_, ?_⟩
        · rw [HTK.out, List.map_append]
          exact HO3.out
        · exact HBL.out.grown (grown_alloc' HS3.out.grown') hs0 (own_row HO.out)
      case measure => simp [intOf]; omega
    · obtain rfl : k = d.cs.length := by omega
      go_wp2
      go_ret
      refine ⟨_, rfl, ?_, HBL.out⟩
      have h2 := HO.out
      rw [List.take_length] at h2
      exact h2
end Go.Proofs.Ytnplcfgjidolbaa
end
section
namespace Go.Proofs.Ytnplcfgjidolbaa
open Go.RowKit

set_option maxHeartbeats 1000000 in
set_option maxRecDepth 100000 in
theorem rimage_any (w : World) (base B av : Nat) (lv cv : Value) (d : Dsk) (h : RD w base B av lv cv d) (hn : d.ls.length ≤ 16384) :
    Calls Try.prog 107 #[.pointer (some ⟨B, 0, none⟩)] w fun e w' => ∃ v, e = .returned v ∧ w'.ownsRow w.heap.size 5 1 v d.ls.flatten.length (d.ls.flatten.map f8) ∧ d.ls.flatten.length = d.ls.length * 256 ∧ Below w.heap.size w w' := by
  obtain ⟨c0, c1, _, _, _, _, _, fz⟩ := rd_cells h.top
  obtain ⟨⟨av1, cc, rfl⟩, _⟩ := h.shape
  obtain ⟨i0, hi0, hz0, hz1, hz2⟩ := info_parts info5
  have hfl : ∀ k, k ≤ d.ls.length → (d.ls.take k).flatten.length = k * 256 := by
    intro k
    induction k with
    | zero => intro _; rfl
    | succ k ih =>
      intro hk
      rw [List.take_succ_eq_append_getElem (by omega), List.flatten_append, List.length_append, ih (by omega)]
      have := h.ok.1 d.ls[k] (List.getElem_mem _)
      simp
      omega
  have HFL := Lib.hid hfl
  have HD := Lib.hid h
  clear h hfl c1
  go_enter Try.func107, Try.ntmps107
  go_wp2
  go_loopw [3, 4] (fun o i wr => ∃ k : Nat, k ≤ d.ls.length ∧ i = .int .i64 k ∧ wr.ownsRow w.heap.size 5 1 o (k * 256) ((d.ls.take k).flatten.map f8) ∧ Below w.heap.size w wr) (fun _ i _ => d.ls.length - (intOf i).toNat)
  case atStart => exact ⟨0, Nat.zero_le _, rfl, by simpa using World.ownsRow_nil _ _ _ _, Below.refl _ _⟩
  case round =>
    obtain ⟨k, hk, rfl, hown, hbel⟩ := hrel
    have HO := Lib.hid hown
    have HBL := Lib.hid hbel
    have hs0 := hbel.size
    have hdk := HD.out.below hbel
    obtain ⟨e0, _, _, _, _, _, _, _⟩ := rd_cells hdk.top
    by_cases hlt : k < d.ls.length
    · obtain ⟨g, cap, u, hcv, q1, q2, _⟩ := hdk.sector k hlt
      injection hcv with hcv1 _ hcv2
      subst hcv1 hcv2
      have hl := HD.out.ok.1 _ (List.getElem_mem hlt)
      have htk := List.take_succ_eq_append_getElem hlt
      generalize hc : d.ls[k] = c at *
      obtain ⟨ao, cap2, rfl, hsl⟩ := Sl.owns q2.1 (by omega)
      have hlw : (0 : Int) ≤ (k : Int) ∧ (k : Int) < (d.ls.length : Int) := by omega
      have HTK := Lib.hid htk
      have HSL := Lib.hid hsl
      have HL := Lib.hid hl
      clear hdk hown hbel htk hc q2 hsl hl
      go_wp2_with (at_builtin; refine wpList_append_sl rfl (.tmp 14) (.tmp 21) 22 rfl w.heap.size 5 i0 (.int .u8 0) 1 Try.underlying22 hi0 hz0 hz1 hz2 rfl _ (k * 256) _ rfl HO.out ao cap2 c rfl HSL.out (f8_one _) (by have := HL.out; unfold maxLen; omega) (by have := HL.out; omega) hs0 ?_; intro v1 w2 hown2 hgrow2; have HO2 := Lib.hid hown2; have HG2 := Lib.hid hgrow2; clear hown2 hgrow2)
      go_roundw
      case rel =>
        refine ⟨k + 1, by omega, by push_cast; rfl, ?_, HBL.out.grown HG2.out hs0 (own_row HO.out)⟩
        have h2 := HO2.out
        rw [HL.out] at h2
        rw [HTK.out, List.flatten_append, List.map_append, Nat.succ_mul]
        simpa using h2
      case measure => simp [intOf]; omega
    · obtain rfl : k = d.ls.length := by omega
      have hfl2 := HFL.out d.ls.length (Nat.le_refl _)
      rw [List.take_length] at hfl2
      go_wp2
      go_ret
      refine ⟨_, rfl, ?_, hfl2, HBL.out⟩
      have h2 := HO.out
      rw [List.take_length] at h2
      rw [hfl2]
      exact h2

/-- What a read finds among the first k writes. -/
def Dsk.getk (d : Dsk) (k a : Nat) : List UInt8 := ({ d with cs := d.cs.take k } : Dsk).get a
theorem getk_zero (d : Dsk) (a : Nat) (ha : a < d.ls.length) : d.getk 0 a = d.ls[a] := by
  simp [Dsk.getk, Dsk.get, lastOf_nil, List.getD, ha]
theorem getk_succ (d : Dsk) (k a : Nat) (hk : k < d.cs.length) : d.getk (k + 1) a = if d.cs[k].1 = a then d.cs[k].2 else d.getk k a := by
  have hl : (d.cs.take k).length = k := by simp; omega
  unfold Dsk.getk Dsk.get
  simp only [List.take_succ_eq_append_getElem hk]
  have e : lastOf (d.cs.take k ++ [d.cs[k]]) a = if d.cs[k].1 = a then some (d.cs.take k).length else lastOf (d.cs.take k) a := lastOf_snoc (d.cs.take k) d.cs[k].1 d.cs[k].2 a
  rw [e]
  by_cases hc : d.cs[k].1 = a
  · simp only [if_pos hc]
    simp [List.getD, hl, hk]
  · simp only [if_neg hc]
    cases h : lastOf (d.cs.take k) a with
    | none => rfl
    | some j =>
      obtain ⟨c, h1, _⟩ := lastOf_some _ a j h
      have hj := (List.getElem?_eq_some_iff.1 h1).1
      simp only [List.getD, List.getElem?_append_left hj]
theorem getk_all (d : Dsk) (a : Nat) : d.getk d.cs.length a = d.get a := by
  unfold Dsk.getk
  rw [List.take_length]

theorem RD.ne {w : World} {base B av : Nat} {lv cv : Value} {d : Dsk} (h : RD w base B av lv cv d) : lv.ownBlock ≠ some B ∧ cv.ownBlock ≠ some B := by
  obtain ⟨vs, h1, _⟩ := h.las
  obtain ⟨us, _, h4, _⟩ := h.cache
  exact ⟨(own_not h1 h.top (by decide)).symm, (own_not h4 h.top (by decide)).symm⟩

set_option maxHeartbeats 1500000 in
set_option maxRecDepth 100000 in
/-- A read that goes on. -/
theorem rread_on (w : World) (base B av : Nat) (lv cv : Value) (d1 : Dsk) (a : Nat) (ha : a < d1.ls.length)
    (hc : Calls Try.prog 109 #[.pointer (some ⟨B, 0, none⟩)] w fun e w' => e = .returned (.int .u16 0) ∧ RD w' base B av lv cv d1 ∧ Gr3 B lv.ownBlock cv.ownBlock w w')
    (hcs : d1.cs.length ≤ 100000000) (hrd : 0 ≤ d1.rd ∧ d1.rd < 4611686018427387904) :
    Calls Try.prog 98 #[.pointer (some ⟨B, 0, none⟩), .int .i64 a] w fun e w' => ∃ v, e = .returned (.tuple #[v, .int .u16 0]) ∧ RD w' base B av lv cv { d1 with rd := d1.rd + 1 } ∧ Gr3 B lv.ownBlock cv.ownBlock w w' ∧ OutV w' w.heap.size v (some (d1.get a)) := by
  obtain ⟨i0, hi0, hz0, hz1, hz2⟩ := info_parts info5
  have HC := Lib.hid hc
  have i1 : (0 : Int) ≤ (a : Int) ∧ (a : Int) < (d1.ls.length : Int) := by omega
  have g1 : decide ((a : Int) < 0) = false := decide_eq_false (by omega)
  have g2 : decide ((d1.ls.length : Int) ≤ (a : Int)) = false := decide_eq_false (by omega)
  clear hc
  go_enter Try.func98, Try.ntmps98
  go_wp2_with (first
    | (go_at_call 109; refine Calls.mono HC.out ?_; rintro e w1 ⟨rfl, hr1, hgr1⟩; have HR1 := Lib.hid hr1; have HG1 := Lib.hid hgr1; obtain ⟨c0, c1, _, _, c4, _, _, fz⟩ := rd_cells hr1.top; obtain ⟨g, cap, u, hlv, q1, q2, _⟩ := hr1.sector a ha; have hne : g ≠ B := (fun e => hr1.ne.1 (by rw [hlv, e]; rfl)); have HLV := Lib.hid hlv; have HQ2 := Lib.hid q2; rw [hlv] at c0; clear hr1 hgr1 hlv q2))
  have hr2 := HR1.out.retop (w' := w1.setCell ⟨B, 4, none⟩ (.int .i64 (d1.rd + 1))) (dark := d1.dark) (trip := d1.trip) (rd := d1.rd + 1) (wr := d1.wr) (fl := d1.fl) (by rw [heap_setCell_same _ _ _ _ _ _ HR1.out.top]; rfl) (fun k hk => heap_setCell_other _ _ _ _ hk)
  have hg2 : Gr3 B lv.ownBlock cv.ownBlock w (w1.setCell ⟨B, 4, none⟩ (.int .i64 (d1.rd + 1))) := HG1.out.trans (retop_gr (w := w1) (w' := w1.setCell ⟨B, 4, none⟩ (.int .i64 (d1.rd + 1))) (B := B) (fun k hk => heap_setCell_other _ _ _ _ hk) rfl rfl rfl (by simp) lv.ownBlock cv.ownBlock) (Anew.refl _ _) (Anew.refl _ _)
  have hq3 : Rb (w1.setCell ⟨B, 4, none⟩ (.int .i64 (d1.rd + 1))) base av u d1.ls[a] := HQ2.out.same (fun k hk => heap_setCell_other _ _ _ _ (fun e => own_not HQ2.out.1 HR1.out.top (by decide) (by rw [hk, e])))
  rw [← getk_zero d1 a ha] at hq3
  obtain ⟨ao0, cap0, rfl⟩ := own_slice hq3.1
  have HR2 := Lib.hid hr2
  have HG2 := Lib.hid hg2
  have HQ3 := Lib.hid hq3
  clear hr2 hg2 hq3 c0 c1 c4 q1 fz HR1 HG1 HQ2
  generalize w1.setCell ⟨B, 4, none⟩ (.int .i64 (d1.rd + 1)) = W at *
  go_loopw [7, 8] (fun s i wr => ∃ k : Nat, k ≤ d1.cs.length ∧ i = .int .i64 k ∧ Rb W base av s (d1.getk k a) ∧ W = wr) (fun _ i _ => d1.cs.length - (intOf i).toNat)
  case atStart => exact ⟨0, Nat.zero_le _, rfl, HQ3.out, rfl⟩
  case round =>
    obtain ⟨k, hk, rfl, hq, rfl⟩ := hrel
    have HQ := Lib.hid hq
    obtain ⟨_, c1, _, _, _, _, _, fz⟩ := rd_cells HR2.out.top
    by_cases hlt : k < d1.cs.length
    · obtain ⟨gc, capc, u2, hcv, q1, q2, q3, _⟩ := HR2.out.write k hlt
      have hs := getk_succ d1 k a hlt
      have HS := Lib.hid hs
      have HQ3' := Lib.hid q3
      rw [hcv] at c1
      clear hq hs q3 hcv
      have hlw : (0 : Int) ≤ (k : Int) ∧ (k : Int) < (d1.cs.length : Int) := by omega
      dsimp only at c1 q1 q2
      by_cases he : d1.cs[k].1 = a
      · have ht : ((d1.cs[k].1 : Int) == (a : Int)) = true := by simp [he]
        have HE := Lib.hid he
        clear he
        go_wp2
        go_roundw
        case rel => exact ⟨k + 1, by omega, by push_cast; rfl, by rw [HS.out, if_pos HE.out]; exact HQ3'.out, trivial⟩
        case measure => simp [intOf]; omega
      · have ht : ((d1.cs[k].1 : Int) == (a : Int)) = false := by simp; omega
        have HE := Lib.hid he
        clear he
        go_wp2
        go_roundw
        case rel => exact ⟨k + 1, by omega, by push_cast; rfl, by rw [HS.out, if_neg HE.out]; exact HQ.out, trivial⟩
        case measure => simp [intOf]; omega
    · obtain rfl : k = d1.cs.length := by omega
      rw [getk_all] at hq
      have hl := get_len HR2.out.ok a ha
      have hl' : (d1.get a).length = 256 := hl
      obtain ⟨ao, cap2, rfl, hsl⟩ := Sl.owns hq.1 (by omega)
      have HL := Lib.hid hl'
      have HSL := Lib.hid hsl
      clear hq hsl hl hl'
      obtain ⟨-, ao3, cap3, hcv⟩ := HR2.out.shape
      rw [hcv] at c1
      clear hcv
      dsimp only at c1
      go_wp2_with (at_builtin; refine wpList_append_sl rfl (.tmp 69) (.tmp 70) 22 rfl W.heap.size 5 i0 (.int .u8 0) 1 Try.underlying22 hi0 hz0 hz1 hz2 rfl _ 0 [] rfl (World.ownsRow_nil _ _ _ _) ao cap2 (d1.get a) rfl HSL.out (f8_one _) (by have := HL.out; unfold maxLen; omega) (by have := HL.out; omega) (Nat.le_refl _) ?_; intro v1 w2 hown2 hgrow2; have HO2 := Lib.hid hown2; have HB2 := Lib.hid ((Below.refl _ _).grown hgrow2 (Nat.le_refl _) (fun k hk => by cases hk)); clear hown2 hgrow2)
      go_ret2
      refine ⟨_, rfl, HR2.out.below HB2.out, ?_, ?_⟩
      · exact HG2.out.trans (Gr3.ofBelow HB2.out (r := lv.ownBlock) (s := cv.ownBlock)) (Anew.refl _ _) (Anew.refl _ _)
      · have h2 := HO2.out
        rw [HL.out, Nat.zero_add, List.nil_append] at h2
        exact ⟨HL.out, own_low h2 HG2.out.size⟩

set_option maxHeartbeats 1000000 in
set_option maxRecDepth 100000 in
/-- A read that does not begin. -/
theorem rread_off (w : World) (base B av : Nat) (lv cv : Value) (d1 : Dsk) (a : Int)
    (hc : Calls Try.prog 109 #[.pointer (some ⟨B, 0, none⟩)] w fun e w' => e = .returned (.int .u16 4) ∧ RD w' base B av lv cv d1 ∧ Gr3 B lv.ownBlock cv.ownBlock w w') :
    Calls Try.prog 98 #[.pointer (some ⟨B, 0, none⟩), .int .i64 a] w fun e w' => ∃ v, e = .returned (.tuple #[v, .int .u16 4]) ∧ RD w' base B av lv cv d1 ∧ Gr3 B lv.ownBlock cv.ownBlock w w' ∧ OutV w' w.heap.size v none := by
  have HC := Lib.hid hc
  clear hc
  go_enter Try.func98, Try.ntmps98
  go_wp2_with (go_at_call 109; refine Calls.mono HC.out ?_; rintro e w1 ⟨rfl, hr1, hgr1⟩; have HR1 := Lib.hid hr1; have HG1 := Lib.hid hgr1; clear hr1 hgr1)
  go_ret2
  exact ⟨_, rfl, HR1.out, HG1.out, rfl⟩

set_option maxHeartbeats 1000000 in
set_option maxRecDepth 100000 in
/-- A read out of range. -/
theorem rread_out (w : World) (base B av : Nat) (lv cv : Value) (d1 : Dsk) (a : Int) (ha : a < 0 ∨ (d1.ls.length : Int) ≤ a)
    (hc : Calls Try.prog 109 #[.pointer (some ⟨B, 0, none⟩)] w fun e w' => e = .returned (.int .u16 0) ∧ RD w' base B av lv cv d1 ∧ Gr3 B lv.ownBlock cv.ownBlock w w') (hrd : 0 ≤ d1.rd ∧ d1.rd < 4611686018427387904) :
    Calls Try.prog 98 #[.pointer (some ⟨B, 0, none⟩), .int .i64 a] w fun e w' => ∃ v, e = .returned (.tuple #[v, .int .u16 2]) ∧ RD w' base B av lv cv { d1 with rd := d1.rd + 1 } ∧ Gr3 B lv.ownBlock cv.ownBlock w w' ∧ OutV w' w.heap.size v none := by
  have HC := Lib.hid hc
  clear hc
  by_cases hn : a < 0
  · have g1 : decide (a < 0) = true := decide_eq_true hn
    go_enter Try.func98, Try.ntmps98
    go_wp2_with (go_at_call 109; refine Calls.mono HC.out ?_; rintro e w1 ⟨rfl, hr1, hgr1⟩; have HR1 := Lib.hid hr1; have HG1 := Lib.hid hgr1; obtain ⟨c0, c1, _, _, c4, _, _, fz⟩ := rd_cells hr1.top; clear hr1 hgr1)
    go_ret2
    refine ⟨_, rfl, HR1.out.retop (dark := d1.dark) (trip := d1.trip) (rd := d1.rd + 1) (wr := d1.wr) (fl := d1.fl) (by rw [heap_setCell_same _ _ _ _ _ _ HR1.out.top]; rfl) (fun k hk => heap_setCell_other _ _ _ _ hk), ?_, rfl⟩
    exact HG1.out.trans (retop_gr (w := w1) (w' := w1.setCell ⟨B, 4, none⟩ (.int .i64 (d1.rd + 1))) (B := B) (fun k hk => heap_setCell_other _ _ _ _ hk) rfl rfl rfl (by simp) lv.ownBlock cv.ownBlock) (Anew.refl _ _) (Anew.refl _ _)
  · have g1 : decide (a < 0) = false := decide_eq_false hn
    have g2 : decide ((d1.ls.length : Int) ≤ a) = true := decide_eq_true (by omega)
    go_enter Try.func98, Try.ntmps98
    go_wp2_with (go_at_call 109; refine Calls.mono HC.out ?_; rintro e w1 ⟨rfl, hr1, hgr1⟩; have HR1 := Lib.hid hr1; have HG1 := Lib.hid hgr1; obtain ⟨c0, c1, _, _, c4, _, _, fz⟩ := rd_cells hr1.top; obtain ⟨⟨ao, cap, hlv⟩, _⟩ := hr1.shape; rw [hlv] at c0; clear hlv hr1 hgr1)
    go_ret2
    refine ⟨_, rfl, HR1.out.retop (dark := d1.dark) (trip := d1.trip) (rd := d1.rd + 1) (wr := d1.wr) (fl := d1.fl) (by rw [heap_setCell_same _ _ _ _ _ _ HR1.out.top]; rfl) (fun k hk => heap_setCell_other _ _ _ _ hk), ?_, rfl⟩
    exact HG1.out.trans (retop_gr (w := w1) (w' := w1.setCell ⟨B, 4, none⟩ (.int .i64 (d1.rd + 1))) (B := B) (fun k hk => heap_setCell_other _ _ _ _ hk) rfl rfl rfl (by simp) lv.ownBlock cv.ownBlock) (Anew.refl _ _) (Anew.refl _ _)

theorem begins_same (d : Dsk) : (d.begins).1.rd = d.rd ∧ (d.begins).1.wr = d.wr ∧ (d.begins).1.fl = d.fl := by
  unfold Dsk.begins
  split
  · exact ⟨rfl, rfl, rfl⟩
  · split <;> exact ⟨rfl, rfl, rfl⟩

/-- A read. -/
theorem rread_any (w : World) (base B av : Nat) (lv cv : Value) (d : Dsk) (a : Int) (h : RD w base B av lv cv d) (hd : Small d) (ht : -9223372036854775808 ≤ d.trip) :
    Calls Try.prog 98 #[.pointer (some ⟨B, 0, none⟩), .int .i64 a] w fun e w' => ∃ v, e = .returned (.tuple #[v, .int .u16 (d.reads a).2.2]) ∧ RD w' base B av lv cv (d.reads a).1 ∧ Gr3 B lv.ownBlock cv.ownBlock w w' ∧ OutV w' w.heap.size v (d.reads a).2.1 := by
  have hc := rbegins_any h ⟨ht, hd.trip⟩
  obtain ⟨l1, l2⟩ := begins_len d
  obtain ⟨l3, _, _⟩ := begins_same d
  unfold Dsk.reads
  cases hb : (d.begins).2 with
  | false =>
    rw [if_pos rfl]
    rw [hb] at hc
    exact rread_off w base B av lv cv _ a hc
  | true =>
    rw [if_neg (by simp)]
    rw [hb] at hc
    by_cases ha : a < 0 ∨ (d.ls.length : Int) ≤ a
    · rw [if_pos ha]
      exact rread_out w base B av lv cv _ a (by rw [l1]; exact ha) hc (by rw [l3]; exact hd.rd)
    · rw [if_neg ha]
      obtain ⟨m, rfl⟩ := Int.eq_ofNat_of_zero_le (show 0 ≤ a by omega)
      have he : d.get m = (d.begins).1.get m := by unfold Dsk.get; simp only [l1, l2]
      have h2 := rread_on w base B av lv cv _ m (by rw [l1]; omega) hc (by rw [l2]; exact hd.cs) (by rw [l3]; exact hd.rd)
      rw [← he] at h2
      exact h2
end Go.Proofs.Ytnplcfgjidolbaa
end
section
namespace Go.Proofs.Ytnplcfgjidolbaa
open Go.RowKit

theorem RD.set {w : World} {base B av : Nat} {lv cv : Value} {d : Dsk} (h : RD w base B av lv cv d) {g cap : Nat} (hlv : lv = .slice (some ⟨g, 0, none⟩) d.ls.length cap) (k : Nat) {u : Value} {s : List UInt8} (hu : Rb w base av u s) (hs : s.length = 256) :
    RD (w.setCell ⟨g, k, none⟩ u) base B av lv cv { d with ls := d.ls.set k s } ∧ Gr3 B lv.ownBlock cv.ownBlock w (w.setCell ⟨g, k, none⟩ u) := by
  obtain ⟨vs, h1, h2⟩ := h.las
  obtain ⟨us, h3, h4, h5⟩ := h.cache
  have hne := h.ne.1
  subst hlv
  have hst := h1.stored k u
  obtain ⟨cs0, hc0⟩ := own_block h1 g rfl
  have keep : ∀ {e : TypeId} {size : Nat} {v : Value} {n : Nat} {xs : List Value}, e ≠ 22 → w.ownsRow base e size v n xs → (w.setCell ⟨g, k, none⟩ u).ownsRow base e size v n xs := fun he hu => own_grown hst.2 hu (fun k hk => by
    injection hk with hk
    subst hk
    exact ⟨cs0, 22, _, hc0, fun e => he e.symm⟩)
  have hgB : B ≠ g := fun e => hne (by rw [e]; rfl)
  refine ⟨⟨(heap_setCell_other _ _ _ _ hgB).trans h.top, ⟨vs.set k u, by simp only [List.length_set]; exact hst.1, fun i x t hx ht => ?_⟩, ⟨us, h3, keep (by decide) h4, fun i x c hx hc => ⟨keep (by decide) (h5 i x c hx hc).1, (h5 i x c hx hc).2⟩⟩, ?_, h.lo⟩, ?_⟩
  · dsimp only at ht
    by_cases he : i = k
    · subst he
      rw [List.getElem?_set_self'] at hx ht
      cases hvi : vs[i]? with
      | none => rw [hvi] at hx; cases hx
      | some a =>
        cases hLi : d.ls[i]? with
        | none => rw [hLi] at ht; cases ht
        | some b =>
          rw [hvi] at hx
          rw [hLi] at ht
          simp at hx ht
          subst hx ht
          exact ⟨keep (by decide) hu.1, hu.2⟩
    · rw [List.getElem?_set_ne (fun e => he e.symm)] at hx ht
      exact ⟨keep (by decide) (h2 i x t hx ht).1, (h2 i x t hx ht).2⟩
  · refine ⟨fun t ht => ?_, fun c hc => ⟨(h.ok.2 c hc).1, by simp only [List.length_set]; exact (h.ok.2 c hc).2⟩⟩
    rcases List.mem_or_eq_of_mem_set ht with h | h
    · exact (‹RD w base B av _ cv d›).ok.1 t h
    · rw [h]; exact hs
  · exact ⟨rfl, rfl, rfl, by simp, fun j hj _ hn _ => heap_setCell_other _ _ _ _ (fun e => hn (by rw [e]; rfl))⟩

/-- The cache is emptied. -/
theorem RD.empty {w : World} {base B av : Nat} {lv cv : Value} {d : Dsk} (h : RD w base B av lv cv d) : RD (w.setCell ⟨B, 1, none⟩ (.slice none 0 0)) base B av lv (.slice none 0 0) { d with cs := [] } ∧ Gr3 B lv.ownBlock cv.ownBlock w (w.setCell ⟨B, 1, none⟩ (.slice none 0 0)) := by
  obtain ⟨vs, h1, h2⟩ := h.las
  have hoth : ∀ k, k ≠ B → (w.setCell ⟨B, 1, none⟩ (.slice none 0 0)).heap[k]? = w.heap[k]? := fun k hk => heap_setCell_other _ _ _ _ hk
  have hk : ∀ {e : TypeId} {s : Nat} {v : Value} {n : Nat} {xs : List Value}, w.ownsRow base e s v n xs → e ≠ 176 → ∀ k, v.ownBlock = some k → (w.setCell ⟨B, 1, none⟩ (.slice none 0 0)).heap[k]? = w.heap[k]? := fun hv he k hk => hoth k (fun e => own_not hv h.top he (by rw [hk, e]))
  refine ⟨⟨by rw [heap_setCell_same _ _ _ _ _ _ h.top]; rfl, ⟨vs, own_of_same h1 (hk h1 (by decide)), fun i u s hu hs => (h2 i u s hu hs).same (hk (h2 i u s hu hs).1 (by decide))⟩, ⟨[], rfl, World.ownsRow_nil _ _ _ _, fun i u c hu => by simp at hu⟩, ⟨h.ok.1, fun c hc => by simp at hc⟩, h.lo⟩, retop_gr hoth rfl rfl rfl (by simp) _ _⟩

set_option maxHeartbeats 1500000 in
set_option maxRecDepth 100000 in
/-- A flush that goes on. -/
theorem rflush_on (w : World) (base B av : Nat) (lv cv : Value) (d1 : Dsk)
    (hc : Calls Try.prog 109 #[.pointer (some ⟨B, 0, none⟩)] w fun e w' => e = .returned (.int .u16 0) ∧ RD w' base B av lv cv d1 ∧ Gr3 B lv.ownBlock cv.ownBlock w w')
    (hcs : d1.cs.length ≤ 100000000) (hfl : 0 ≤ d1.fl ∧ d1.fl < 4611686018427387904) :
    Calls Try.prog 100 #[.pointer (some ⟨B, 0, none⟩)] w fun e w' => e = .returned (.int .u16 0) ∧ RD w' base B av lv (.slice none 0 0) { d1 with fl := d1.fl + 1, ls := settled d1.ls d1.cs (fun _ => true), cs := [] } ∧ Gr3 B lv.ownBlock cv.ownBlock w w' := by
  have HC := Lib.hid hc
  clear hc
  go_enter Try.func100, Try.ntmps100
  go_wp2_with (go_at_call 109; refine Calls.mono HC.out ?_; rintro e w1 ⟨rfl, hr1, hgr1⟩; have HR1 := Lib.hid hr1; have HG1 := Lib.hid hgr1; obtain ⟨c0, c1, _, _, _, _, c6, fz⟩ := rd_cells hr1.top; clear hr1 hgr1)
  have hr2 := HR1.out.retop (w' := w1.setCell ⟨B, 6, none⟩ (.int .i64 (d1.fl + 1))) (dark := d1.dark) (trip := d1.trip) (rd := d1.rd) (wr := d1.wr) (fl := d1.fl + 1) (by rw [heap_setCell_same _ _ _ _ _ _ HR1.out.top]; rfl) (fun k hk => heap_setCell_other _ _ _ _ hk)
  have hg2 : Gr3 B lv.ownBlock cv.ownBlock w (w1.setCell ⟨B, 6, none⟩ (.int .i64 (d1.fl + 1))) := HG1.out.trans (retop_gr (w := w1) (w' := w1.setCell ⟨B, 6, none⟩ (.int .i64 (d1.fl + 1))) (B := B) (fun k hk => heap_setCell_other _ _ _ _ hk) rfl rfl rfl (by simp) lv.ownBlock cv.ownBlock) (Anew.refl _ _) (Anew.refl _ _)
  have HR2 := Lib.hid hr2
  have HG2 := Lib.hid hg2
  clear hr2 hg2 c0 c1 c6 fz HR1 HG1
  generalize w1.setCell ⟨B, 6, none⟩ (.int .i64 (d1.fl + 1)) = W at *
  go_loopw [4] (fun i wr => ∃ k : Nat, k ≤ d1.cs.length ∧ i = .int .i64 k ∧ RD wr base B av lv cv { d1 with fl := d1.fl + 1, ls := settled d1.ls (d1.cs.take k) (fun _ => true) } ∧ Gr3 B lv.ownBlock cv.ownBlock w wr) (fun i _ => d1.cs.length - (intOf i).toNat)
  case atStart => exact ⟨0, Nat.zero_le _, rfl, HR2.out, HG2.out⟩
  case round =>
    obtain ⟨k, hk, rfl, hr, hg⟩ := hrel
    have HR := Lib.hid hr
    have HG := Lib.hid hg
    obtain ⟨c0, c1, _, _, _, _, _, fz⟩ := rd_cells hr.top
    have hlen := settled_len d1.ls (d1.cs.take k) (fun _ => true)
    by_cases hlt : k < d1.cs.length
    · obtain ⟨gc, capc, u, hcv, q1, q2, q3, _⟩ := hr.write k hlt
      have hcok := hr.ok.2 _ (List.getElem_mem hlt)
      dsimp only at hcok q1 q2 q3 hcv
      obtain ⟨ao5, cap5, hu5⟩ := own_slice q3.1
      subst hu5
      obtain ⟨gl, capl, _, hlv, qo, _, _⟩ := hr.sector d1.cs[k].1 hcok.2
      have htk := settled_take d1.ls d1.cs (fun _ => true) k hlt
      rw [if_pos rfl] at htk
      dsimp only at hlv
      rw [hlen] at hlv hcok
      have hset := hr.set (by dsimp only; rw [hlen]; exact hlv) d1.cs[k].1 q3 hcok.1
      rw [hcv] at c1
      rw [hlv] at c0
      have fzl : wr.frozen? ⟨gl, d1.cs[k].1, none⟩ = false := by
        obtain ⟨vs, h1, _⟩ := hr.las
        dsimp only at h1
        rw [hlen, hlv] at h1
        exact h1.frozenAt _
      have hlw : (0 : Int) ≤ (k : Int) ∧ (k : Int) < (d1.cs.length : Int) := by omega
      have hlw2 : (0 : Int) ≤ (d1.cs[k].1 : Int) ∧ (d1.cs[k].1 : Int) < (d1.ls.length : Int) := by omega
      have HTK := Lib.hid htk
      have HSET := Lib.hid hset
      have HL := Lib.hid hcok.1
      clear hcv hlv htk hset q3 hcok hr hg hlen
      go_wp2
      go_region
      all_goals go_wp2
      obtain ⟨s1, s2⟩ := HSET.out
      rw [HL.out] at s1 s2
      refine ⟨⟨k + 1, by omega, by push_cast; rfl, by rw [HTK.out]; exact s1.other fun _ _ _ => rfl, HG.out.trans (s2.trans ⟨rfl, rfl, rfl, Nat.le_refl _, fun _ _ _ _ _ => rfl⟩ (Anew.refl _ _) (Anew.refl _ _)) (Anew.refl _ _) (Anew.refl _ _)⟩, ?_⟩
      simp [intOf]; omega
    · obtain rfl : k = d1.cs.length := by omega
      rw [List.take_length] at hr
      obtain ⟨r1, r2⟩ := hr.empty
      have HE := Lib.hid (And.intro r1 (hg.trans r2 (Anew.refl _ _) (Anew.refl _ _)))
      obtain ⟨-, ao3, cap3, hcv⟩ := hr.shape
      rw [hcv] at c1
      clear r1 r2 hcv hr hg HR HG
      go_wp2
      go_ret
      exact ⟨rfl, HE.out.1, HE.out.2⟩

set_option maxHeartbeats 1000000 in
set_option maxRecDepth 100000 in
/-- A flush that does not begin. -/
theorem rflush_off (w : World) (base B av : Nat) (lv cv : Value) (d1 : Dsk)
    (hc : Calls Try.prog 109 #[.pointer (some ⟨B, 0, none⟩)] w fun e w' => e = .returned (.int .u16 4) ∧ RD w' base B av lv cv d1 ∧ Gr3 B lv.ownBlock cv.ownBlock w w') :
    Calls Try.prog 100 #[.pointer (some ⟨B, 0, none⟩)] w fun e w' => e = .returned (.int .u16 4) ∧ RD w' base B av lv cv d1 ∧ Gr3 B lv.ownBlock cv.ownBlock w w' := by
  have HC := Lib.hid hc
  clear hc
  go_enter Try.func100, Try.ntmps100
  go_wp2_with (go_at_call 109; refine Calls.mono HC.out ?_; rintro e w1 ⟨rfl, hr1, hgr1⟩; have HR1 := Lib.hid hr1; have HG1 := Lib.hid hgr1; clear hr1 hgr1)
  go_ret
  exact ⟨rfl, HR1.out, HG1.out⟩

/-- A flush. -/
theorem rflush_any (w : World) (base B av : Nat) (lv cv : Value) (d : Dsk) (h : RD w base B av lv cv d) (hd : Small d) (ht : -9223372036854775808 ≤ d.trip) :
    Calls Try.prog 100 #[.pointer (some ⟨B, 0, none⟩)] w fun e w' => e = .returned (.int .u16 d.flushed.2) ∧ (∃ cv', RD w' base B av lv cv' d.flushed.1 ∧ Anew w cv.ownBlock cv'.ownBlock) ∧ Gr3 B lv.ownBlock cv.ownBlock w w' := by
  have hc := rbegins_any h ⟨ht, hd.trip⟩
  obtain ⟨l1, l2⟩ := begins_len d
  obtain ⟨_, _, l3⟩ := begins_same d
  unfold Dsk.flushed
  cases hb : (d.begins).2 with
  | false =>
    rw [if_pos rfl]
    rw [hb] at hc
    exact (rflush_off w base B av lv cv _ hc).mono fun e w' ⟨h1, h2, h3⟩ => ⟨h1, ⟨cv, h2, Anew.refl _ _⟩, h3⟩
  | true =>
    rw [if_neg (by simp)]
    rw [hb] at hc
    exact (rflush_on w base B av lv cv _ hc (by rw [l2]; exact hd.cs) (by rw [l3]; exact hd.fl)).mono fun e w' ⟨h1, h2, h3⟩ => ⟨h1, ⟨_, h2, fun k hk => by cases hk⟩, h3⟩

/-- What a cut leaves. -/
def Dsk.cutBy (d : Dsk) (keep : List Bool) : Dsk := { d with ls := settled d.ls d.cs (fun i => keep.getD i false), cs := [], dark := false, trip := -1 }

set_option maxHeartbeats 1500000 in
set_option maxRecDepth 100000 in
/-- A cut. -/
theorem rcut_any (w : World) (base B av : Nat) (lv cv : Value) (d : Dsk) (kv : Value) (keep : List Bool) (h : RD w base B av lv cv d) (hcs : d.cs.length ≤ 100000000) (hkeep : ∀ W, Gr3 B lv.ownBlock cv.ownBlock w W → Sl 0 W.heap.size fB W kv keep) :
    Calls Try.prog 102 #[.pointer (some ⟨B, 0, none⟩), kv] w fun e w' => e = .returned (.tuple #[]) ∧ RD w' base B av lv (.slice none 0 0) (d.cutBy keep) ∧ Gr3 B lv.ownBlock cv.ownBlock w w' := by
  obtain ⟨ak, ck, rfl, hsl0⟩ := hkeep w (Gr3.refl _ _ _ _)
  have hkl := hsl0.len
  have HK := Lib.hid (show ∀ W, Gr3 B lv.ownBlock cv.ownBlock w W → SlC 0 W.heap.size fB W ak ck keep from fun W hW => by
    obtain ⟨a2, c2, he, h2⟩ := hkeep W hW
    injection he with h1 _ h3
    subst h1 h3
    exact h2)
  have HD := Lib.hid h
  clear h hkeep hsl0
  go_enter Try.func102, Try.ntmps102
  go_wp2
  go_loopw [4] (fun i wr => ∃ k : Nat, k ≤ d.cs.length ∧ i = .int .i64 k ∧ RD wr base B av lv cv { d with ls := settled d.ls (d.cs.take k) (fun i => keep.getD i false) } ∧ Gr3 B lv.ownBlock cv.ownBlock w wr) (fun i _ => d.cs.length - (intOf i).toNat)
  case atStart => exact ⟨0, Nat.zero_le _, rfl, HD.out, Gr3.refl _ _ _ _⟩
  case round =>
    obtain ⟨k, hk, rfl, hr, hg⟩ := hrel
    have HR := Lib.hid hr
    have HG := Lib.hid hg
    obtain ⟨c0, c1, _, _, _, _, _, fz⟩ := rd_cells hr.top
    have hlen := settled_len d.ls (d.cs.take k) (fun i => keep.getD i false)
    by_cases hlt : k < d.cs.length
    · obtain ⟨gc, capc, u, hcv, q1, q2, q3, _⟩ := hr.write k hlt
      have hcok := hr.ok.2 _ (List.getElem_mem hlt)
      dsimp only at hcok q1 q2 q3 hcv
      obtain ⟨ao5, cap5, hu5⟩ := own_slice q3.1
      subst hu5
      obtain ⟨gl, capl, _, hlv, qo, _, _⟩ := hr.sector d.cs[k].1 hcok.2
      have htk := settled_take d.ls d.cs (fun i => keep.getD i false) k hlt
      dsimp only at hlv
      rw [hlen] at hlv hcok
      have hset := hr.set (by dsimp only; rw [hlen]; exact hlv) d.cs[k].1 q3 hcok.1
      have fzl : wr.frozen? ⟨gl, d.cs[k].1, none⟩ = false := by
        obtain ⟨vs, h1, _⟩ := hr.las
        dsimp only at h1
        rw [hlen, hlv] at h1
        exact h1.frozenAt _
      rw [hcv] at c1
      rw [hlv] at c0
      have hlw : (0 : Int) ≤ (k : Int) ∧ (k : Int) < (d.cs.length : Int) := by omega
      have hlw2 : (0 : Int) ≤ (d.cs[k].1 : Int) ∧ (d.cs[k].1 : Int) < (d.ls.length : Int) := by omega
      have HTK := Lib.hid htk
      have HSET := Lib.hid hset
      have HL := Lib.hid hcok.1
      have hkc := HK.out wr hg
      clear hcv hlv htk hset q3 hcok hr hlen
      by_cases hkk : k < keep.length
      · obtain ⟨bk, ok, hak, _, _, hcell⟩ := hkc.cells (by intro e; subst e; simp at hkk)
        have e1 := hcell k hkk
        have hgd : keep.getD k false = keep[k] := by simp [List.getD, hkk]
        rw [hgd] at HTK
        have hlk : (0 : Int) ≤ (k : Int) ∧ (k : Int) < (keep.length : Int) := by omega
        subst hak
        unfold fB at e1
        clear hkc hg hcell hgd
        cases hb : keep[k]
        · rw [hb] at e1 HTK
          rw [if_neg (by simp)] at HTK
          clear hb
          go_wp2
          go_roundw
          case rel => exact ⟨k + 1, by omega, by push_cast; rfl, by rw [HTK.out]; exact HR.out, HG.out⟩
          case measure => simp [intOf]; omega
        · rw [hb] at e1 HTK
          rw [if_pos rfl] at HTK
          clear hb
          go_wp2
          go_region
          all_goals go_wp2
          obtain ⟨s1, s2⟩ := HSET.out
          rw [HL.out] at s1 s2
          refine ⟨⟨k + 1, by omega, by push_cast; rfl, by rw [HTK.out]; exact s1.other fun _ _ _ => rfl, HG.out.trans (s2.trans ⟨rfl, rfl, rfl, Nat.le_refl _, fun _ _ _ _ _ => rfl⟩ (Anew.refl _ _) (Anew.refl _ _)) (Anew.refl _ _) (Anew.refl _ _)⟩, ?_⟩
          simp [intOf]; omega
      · have hgd : keep.getD k false = false := by rw [List.getD, List.getElem?_eq_none (by omega)]; rfl
        rw [hgd, if_neg (by simp)] at HTK
        clear hkc hg hgd
        go_wp2
        go_roundw
        case rel => exact ⟨k + 1, by omega, by push_cast; rfl, by rw [HTK.out]; exact HR.out, HG.out⟩
        case measure => simp [intOf]; omega
    · obtain rfl : k = d.cs.length := by omega
      rw [List.take_length] at hr
      obtain ⟨r1, r2⟩ := hr.empty
      have HE := Lib.hid (And.intro r1 (hg.trans r2 (Anew.refl _ _) (Anew.refl _ _)))
      obtain ⟨-, ao3, cap3, hcv⟩ := hr.shape
      rw [hcv] at c1
      clear r1 r2 hcv hr hg HR HG
      go_wp2
      go_end0
      obtain ⟨r1, r2⟩ := HE.out
      have hoth : ∀ k, k ≠ B → (((wr.setCell ⟨B, 1, none⟩ (.slice none 0 0)).setCell ⟨B, 2, none⟩ (.bool false)).setCell ⟨B, 3, none⟩ (.int .i64 (-1))).heap[k]? = (wr.setCell ⟨B, 1, none⟩ (.slice none 0 0)).heap[k]? := fun k hk => (heap_setCell_other _ _ _ _ hk).trans (heap_setCell_other _ _ _ _ hk)
      refine ⟨rfl, r1.retop (dark := false) (trip := -1) (rd := d.rd) (wr := d.wr) (fl := d.fl) (by rw [heap_setCell_same _ _ _ _ _ _ (heap_setCell_same _ _ _ _ _ _ r1.top)]; rfl) hoth, r2.trans (retop_gr hoth rfl rfl rfl (by simp) lv.ownBlock cv.ownBlock) (Anew.refl _ _) (Anew.refl _ _)⟩
end Go.Proofs.Ytnplcfgjidolbaa
end
