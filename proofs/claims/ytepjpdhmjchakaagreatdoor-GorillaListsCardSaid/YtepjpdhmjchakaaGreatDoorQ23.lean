import Derived.Test.YtepjpdhmjchakaaGreatDoorQ22
import Derived.Test.YtepjpdhmjchakaaGreatDoorQ1
import Derived.Test.YtepjpdhmjchakaaGreatDoorQ9
/- LentSamples, WholeSamples, SpoilSamples: what they do. -/
namespace Go.Proofs.YtepjpdhmjchakaaGreatDoor
open Go.RowKit
set_option linter.unusedVariables false

theorem smCs_app' (a b : List Gz.Smp) : smCs (a ++ b) = smCs a ++ smCs b := by simp [smCs]
theorem smCs_one' (l : List Gz.Smp) : ∀ u ∈ smCs l, u.oneCell' = true := by
  intro u hu
  unfold smCs at hu
  rw [List.mem_flatten] at hu
  obtain ⟨x, hx, hu⟩ := hu
  obtain ⟨s, _, rfl⟩ := List.mem_map.1 hx
  simp at hu
  rcases hu with rfl | rfl <;> rfl
theorem Sms.none {hi : Nat} {w : World} {ao : Option Addr} {cap : Nat} {l : List Gz.Smp} (h : Sms hi w ao cap l) (hn : ao = none) : l.length = 0 := by
  cases l with
  | nil => rfl
  | cons a l => obtain ⟨b, off, ha, _⟩ := h.cells (by simp); rw [hn] at ha; cases ha
theorem Sms.news {hi : Nat} {w : World} {ao : Option Addr} {cap : Nat} {l : List Gz.Smp} (h : Sms hi w ao cap l) : ∀ ad, ao = some ad → ∀ j u, (smCs l)[j]? = some u → w.cell? (ad.add j) = some u := by
  intro ad had j u hu
  have hj : j < l.length * 2 := by
    have := (List.getElem?_eq_some_iff.1 hu).1
    rwa [smCs_len] at this
  obtain ⟨b, off, ha, _, hcell⟩ := h.cells (by intro e; subst e; simp at hj)
  rw [had] at ha
  injection ha with ha
  subst ha
  rw [Addr.add_lit]
  have hq : j / 2 < l.length := by omega
  have hc := hcell (j / 2) hq
  obtain ⟨g0, g1⟩ := smCs_get hq
  rcases Nat.mod_two_eq_zero_or_one j with hm | hm
  · have e : j / 2 * 2 = j := by omega
    rw [e] at g0
    rw [g0] at hu
    injection hu with hu
    rw [← hu, ← hc.c0, e]
  · have e : j / 2 * 2 + 1 = j := by omega
    rw [e] at g1
    rw [g1] at hu
    injection hu with hu
    rw [← hu, ← hc.c1, Nat.add_assoc, e]

set_option maxRecDepth 100000 in
theorem lentSm_any (w : World) (ao : Option Addr) (cap : Nat) (l : List Gz.Smp) (h : Sms w.heap.size w ao cap l) (hnn : ao = none → cap = 0) (hn : l.length ≤ 1000000) :
    Calls Tryz.prog 4 #[.slice ao l.length cap] w fun e w' => e = .returned (.slice (some ⟨w.heap.size, 0, none⟩) l.length (l.length + 2)) ∧
      w'.heap[w.heap.size]? = some (.cells (smCs l ++ [Value.int .i64 (-71), Value.int .u64 0, Value.int .i64 (-72), Value.int .u64 0]).toArray 79 (0, 0)) ∧ Below w.heap.size w w' := by
  have H := Lib.hid h
  obtain ⟨i0, hi0, hz0, hz1, hz2⟩ := info_parts infoSm4
  clear h
  go_enter Tryz.func4, Tryz.ntmps4
  go_wp2_with (first
    | (at_make; refine wpList_make_own _ rfl _ _ 22 rfl w.heap.size 79 i0 (.agg #[.int .i64 0, .int .u64 0]) 2 Tryz.underlying22 hi0 hz0 hz1 .i64 .i64 _ (l.length + 2) rfl rfl (by push_cast; rfl) (by rw [hz2]; omega) (by unfold maxLen; omega) (Nat.le_refl _) ?_; intro w1 hown1 hgrow1)
    | (at_builtin; refine wpList_append_fits_any _ rfl (.tmp 8) (.tmp 9) 22 rfl w.heap.size 79 i0 2 Tryz.underlying22 hi0 hz1 _ 0 (l.length + 2) _ rfl hown1 ao l.length cap (smCs l) rfl (smCs_len l) (fun e => ⟨H.out.none e, hnn e⟩) (H.out.below ((Below.refl _ _).grown hgrow1 (Nat.le_refl _) (by simp)) (Nat.le_refl _)).news (smCs_one' l) (by omega) ?_; intro w2 hown2 hgrow2; simp only [Nat.zero_add, List.nil_append] at hown2)
    | (at_builtin; refine wpList_append_fits _ rfl (.tmp 11) (.tmp 14) 22 rfl w.heap.size 79 i0 2 Tryz.underlying22 hi0 hz1 _ l.length (l.length + 2) _ rfl (hown2.alloc _) ⟨w2.heap.size, 0, none⟩ 2 2 [.int .i64 (-71), .int .u64 0, .int .i64 (-72), .int .u64 0] rfl rfl (news_alloc w2 [.int .i64 (-71), .int .u64 0, .int .i64 (-72), .int .u64 0] 79) (by simp [Value.oneCell']) (by omega) ?_; intro w3 hown3 hgrow3)
    )
  go_ret
  obtain ⟨_, hgc⟩ := own_fulls (by decide) (by omega) hown3
  have hb1 := (Below.refl w.heap.size w).grown hgrow1 (Nat.le_refl _) (by simp)
  have hb2 := hb1.grown hgrow2 hb1.size (by simp)
  exact ⟨rfl, hgc, (hb2.alloc hb2.size _).grown hgrow3 (by have := hb2.size; simp; omega) (by simp)⟩
set_option maxRecDepth 100000 in
theorem wholeSm_any (g : Nat) (w : World) (ao' : Option Addr) (cap' : Nat) (l : List Gz.Smp) (hg : w.heap[g]? = some (.cells (smCs l ++ [Value.int .i64 (-71), Value.int .u64 0, Value.int .i64 (-72), Value.int .u64 0]).toArray 79 (0, 0))) (hi : Nat) (h' : Sms hi w ao' cap' l) (hn : l.length ≤ 1000000) :
    Calls Tryz.prog 8 #[.slice (some ⟨g, 0, none⟩) l.length (l.length + 2), .slice ao' l.length cap'] w fun e w' => e = .returned (.bool true) ∧ ∃ n, w' = w.drewN n := by
  have hs : Sms w.heap.size w (some ⟨g, 0, none⟩) (l.length + 2) l := by
    refine ⟨by unfold maxLen; omega, fun _ => ⟨g, 0, rfl, heap_lt hg, fun j hj => ?_⟩⟩
    obtain ⟨g0, g1⟩ := smCs_get hj
    have hf := h'.fits l[j] (List.getElem_mem hj)
    rw [Nat.zero_add]
    exact ⟨by rw [cell_of_row _ _ _ _ _ _ hg, List.getElem?_toArray, List.getElem?_append_left (by rw [smCs_len]; omega)]; exact g0, by rw [cell_of_row _ _ _ _ _ _ hg, List.getElem?_toArray, List.getElem?_append_left (by rw [smCs_len]; omega)]; exact g1, hf.1, hf.2⟩
  have key : ∀ j x, ([Value.int .i64 (-71), Value.int .u64 0, Value.int .i64 (-72), Value.int .u64 0])[j]? = some x → w.cell? ⟨g, l.length * 2 + j, none⟩ = some x := fun j x hx => by
    rw [cell_of_row _ _ _ _ _ _ hg, List.getElem?_toArray, List.getElem?_append_right (by rw [smCs_len]; omega), smCs_len, Nat.add_sub_cancel_left]; exact hx
  have c0 : w.cell? ⟨g, l.length * 2, none⟩ = some (.int .i64 (-71)) := key 0 _ rfl
  have c1 : w.cell? ⟨g, l.length * 2 + 1, none⟩ = some (.int .u64 0) := key 1 _ rfl
  have c2 : w.cell? ⟨g, (l.length + 1) * 2, none⟩ = some (.int .i64 (-72)) := by rw [Nat.add_mul]; exact key 2 _ rfl
  have c3 : w.cell? ⟨g, (l.length + 1) * 2 + 1, none⟩ = some (.int .u64 0) := by rw [Nat.add_mul]; exact key 3 _ rfl
  have HS := Lib.hid (sameSm_any w.heap.size hi w _ _ _ _ l l hs h')
  have i0 : (0 : Int) ≤ (l.length : Int) ∧ (l.length : Int) < ((l.length + 2 : Nat) : Int) := by omega
  have i1 : (0 : Int) ≤ (l.length : Int) + 1 ∧ (l.length : Int) + 1 < ((l.length + 2 : Nat) : Int) := by omega
  clear key hs h' hg
  go_enter Tryz.func8, Tryz.ntmps8
  go_wp2_with fail
  refine HS.out.mono ?_
  rintro e w1 ⟨b, rfl, hb, n, hw⟩
  obtain rfl : b = true := hb.2 trivial
  subst hw
  go_wp2_with fail
  go_ret
  exact ⟨rfl, n, rfl⟩

theorem set_blk {w : World} {g : Nat} {cs : Array Value} {e : TypeId} (h : w.heap[g]? = some (.cells cs e (0, 0))) (k : Nat) (u : Value) : ∃ cs', cs'.size = cs.size ∧ (w.setCell ⟨g, k, none⟩ u).heap[g]? = some (.cells cs' e (0, 0)) := ⟨_, Array.size_setIfInBounds, heap_setCell_same _ _ _ _ _ _ h⟩
theorem grown_set {w w' : World} {g : Nat} (h : w.grownBy w' (some g)) (k : Nat) (u : Value) : w.grownBy (w'.setCell ⟨g, k, none⟩ u) (some g) :=
  ⟨h.os, h.tape, h.output, by simpa using h.size, fun i hi hne => (Below.heap_setCell _ _ _ _ (by intro e; exact hne (by rw [e]))).trans (h.block i hi hne)⟩
set_option maxRecDepth 100000 in
theorem spoilSm_any (g n : Nat) (w : World) (cs : Array Value) (hn : n ≤ 1000002) (hcs : cs.size = n * 2) (hg : w.heap[g]? = some (.cells cs 79 (0, 0))) (m : Nat) :
    Calls Tryz.prog 10 #[.slice (some ⟨g, 0, none⟩) m n] w fun e w' => e = .returned (.tuple #[]) ∧ w.grownBy w' (some g) := by
  go_enter Tryz.func10, Tryz.ntmps10
  go_wp2
  go_loopw [3] (fun i wr => ∃ (k : Nat) (cs' : Array Value), k ≤ n ∧ i = .int .i64 k ∧ cs'.size = n * 2 ∧ wr.heap[g]? = some (.cells cs' 79 (0, 0)) ∧ w.grownBy wr (some g)) (fun i _ => n - (intOf i).toNat)
  case atStart => exact ⟨0, cs, by omega, rfl, hcs, hg, World.grownBy.refl _ _⟩
  case round =>
    obtain ⟨k, cs', hk, rfl, hcs', hg', hgr⟩ := hrel
    by_cases hlt : k < n
    · have hc : ∀ i, i < n * 2 → ∃ v, wr.cell? ⟨g, i, none⟩ = some v := fun i hi => ⟨cs'[i]'(by omega), by rw [cell_of_row _ _ _ _ _ _ hg', Array.getElem?_eq_getElem]⟩
      obtain ⟨v0, hc0⟩ := hc (k * 2) (by omega)
      obtain ⟨v1, hc1⟩ := hc (k * 2 + 1) (by omega)
      have hf : ∀ i, wr.frozen? ⟨g, i, none⟩ = false := fun i => frozen_of_row _ _ _ _ _ hg'
      have HG := Lib.hid hg'
      have HC := Lib.hid hcs'
      have HGR := Lib.hid hgr
      clear hg' hcs' hg hcs hc hgr
      go_wp2
      go_roundw
      case rel =>
        obtain ⟨d1, e1, h1⟩ := set_blk HG.out (k * 2) (.int .i64 (-5))
        obtain ⟨d2, e2, h2⟩ := set_blk h1 (k * 2 + 1) (.int .u64 0)
        exact ⟨k + 1, d2, by omega, by go_num, by rw [e2, e1]; exact HC.out, h2, grown_set (grown_set HGR.out _ _) _ _⟩
      case measure => simp [intOf]; omega
    · go_wp2
      go_end0
      exact ⟨rfl, hgr⟩
end Go.Proofs.YtepjpdhmjchakaaGreatDoor

/- SpoilChunks: what it does. -/
namespace Go.Proofs.YtepjpdhmjchakaaGreatDoor
open Go.RowKit
set_option linter.unusedVariables false
set_option maxHeartbeats 4000000 in
set_option maxRecDepth 100000 in
theorem spoilCh_any (base g : Nat) (w : World) (us : List Value) (l : List Cki) (h : LC w base g us l) (hn : l.length ≤ 1000000) (hr : ∀ c ∈ l, c.d.length ≤ 140737488355328) (bT : Nat) (hT : g < bT ∧ ∀ u ∈ us, ∀ k, u.ownBlock = some k → k < bT) :
    Calls Tryz.prog 11 #[.slice (some ⟨g, 0, none⟩) l.length (l.length + 1)] w fun e w' => e = .returned (.tuple #[]) ∧ Below base w w' ∧ ∀ k, bT ≤ k → k < w.heap.size → w'.heap[k]? = w.heap[k]? := by
  have HL := Lib.hid h.len
  have HT := Lib.hid hT
  clear hT
  have HH := Lib.hid h
  have HRR := Lib.hid hr
  clear h hr
  go_enter Tryz.func11, Tryz.ntmps11
  go_wp2
  go_loopw [2] (fun i wr => ∃ k : Nat, k ≤ l.length ∧ i = .int .i64 k ∧ wr.heap[g]? = some (.cells (ckis l us ++ [Value.int .i64 0, Value.int .i64 0, Value.int .i64 (-77), Value.slice none 0 0]).toArray 26 (0, 0)) ∧
      (∀ (i : Nat) (u : Value) (c : Cki), k ≤ i → us[i]? = some u → l[i]? = some c → LB wr base u c.d) ∧ (∀ k, bT ≤ k → k < w.heap.size → wr.heap[k]? = w.heap[k]?) ∧ Below base w wr) (fun i _ => l.length - (intOf i).toNat)
  case atStart => exact ⟨0, Nat.zero_le _, rfl, HH.out.blk, fun i u r _ hu hq => HH.out.each i u r hu hq, fun _ _ _ => rfl, Below.refl _ _⟩
  case round =>
    obtain ⟨k, hk, rfl, hblk, heach, htop, hbel⟩ := hrel
    have HTOP := Lib.hid htop
    clear htop
    have HB := Lib.hid hblk
    have HE := Lib.hid heach
    clear hblk heach
    by_cases hlt : k < l.length
    · have hv : k < us.length := by rw [HL.out]; exact hlt
      obtain ⟨gi, hxe, hxb, hgi⟩ := HE.out k us[k] l[k] (Nat.le_refl _) (List.getElem?_eq_getElem hv) (List.getElem?_eq_getElem hlt)
      have hc1 : wr.cell? ⟨g, k * 4 + 3, none⟩ = some (.slice (some ⟨gi, 0, none⟩) l[k].d.length (l[k].d.length + 2)) := by
        rw [cell_of_row _ _ _ _ _ _ HB.out, List.getElem?_toArray, List.getElem?_append_left (by rw [ckis_len HL.out]; omega), ckis_get HL.out hlt hv 3 (by decide), hxe]; rfl
      have hrl := HRR.out l[k] (List.getElem_mem hlt)
      obtain ⟨r, hre⟩ : ∃ r, r = l[k].d := ⟨_, rfl⟩
      rw [← hre] at hc1 hxb hrl hxe
      have HXB := Lib.hid hxb
      have HXE := Lib.hid hxe
      have i1 : (0 : Int) ≤ (k : Int) ∧ (k : Int) < (l.length : Int) := by omega
      clear hxb hxe hre
      go_wp2_with (go_at_call 28; refine (spoil_any gi (r.length + 2) wr _ (by omega) (by simp) HXB.out r.length).mono ?_; rintro e w2 ⟨rfl, hgr⟩)
      go_roundw
      case rel =>
        refine ⟨k + 1, by omega, by go_num, ?_, fun i u q hi hu hq => ?_, fun q h1 h2 => (hgr.block q (Nat.lt_of_lt_of_le h2 hbel.size) (fun e => ?_)).trans (HTOP.out q h1 h2), hbel.grown hgr (by have := heap_lt HXB.out; omega) (fun q hq => by injection hq with hq; omega)⟩
        · refine (hgr.block g (heap_lt HB.out) (fun e => ?_)).trans HB.out
          injection e with e
          have h2 := HXB.out
          rw [← e, HB.out] at h2
          injection h2 with h2
          injection h2 with _ h2
          cases h2
        · obtain ⟨gj, e1, e2, e3⟩ := HE.out i u q (by omega) hu hq
          refine ⟨gj, e1, (hgr.block gj (heap_lt e2) (fun e => ?_)).trans e2, e3⟩
          injection e with e
          have := HH.out.inc k i us[k] u gi gj (List.getElem?_eq_getElem hv) hu (by rw [HXE.out]; rfl) (by rw [e1]; rfl) (by omega)
          omega
        · injection e with e
          have := HT.out.2 us[k] (List.getElem_mem hv) gi (by rw [HXE.out]; rfl)
          omega
      case measure => simp [intOf]; omega
    · have hbs : g < wr.heap.size := heap_lt HB.out
      have hbg := HH.out.lo
      have hbase : base ≤ wr.heap.size := by omega
      have hcs : (ckis l us ++ [Value.int .i64 0, Value.int .i64 0, Value.int .i64 (-77), Value.slice none 0 0]).toArray.size = (l.length + 1) * 4 := by simp [ckis_len HL.out]; omega
      have HCS := Lib.hid hcs
      clear hcs
      go_wp2_with fail
      go_loopw [4] (fun i w' => ∃ (k : Nat) (cs : Array Value), k ≤ l.length + 1 ∧ i = .int .i64 k ∧ cs.size = (l.length + 1) * 4 ∧ w'.heap[g]? = some (.cells cs 26 (0, 0)) ∧ (∀ k, bT ≤ k → k < w.heap.size → w'.heap[k]? = w.heap[k]?) ∧ Below base w w') (fun i _ => l.length + 1 - (intOf i).toNat)
      case atStart => exact ⟨0, _, Nat.zero_le _, rfl, HCS.out, HB.out, HTOP.out, hbel⟩
      case round =>
        obtain ⟨k, cs, hk, rfl, hcs, hg, htop, hbl⟩ := hrel
        have HTOP2 := Lib.hid htop
        clear htop
        by_cases hlt : k < l.length + 1
        · have hc : ∀ i, i < (l.length + 1) * 4 → ∃ v, wr.cell? ⟨g, i, none⟩ = some v := fun i hi => ⟨cs[i]'(by omega), by rw [cell_of_row _ _ _ _ _ _ hg, Array.getElem?_eq_getElem]⟩
          obtain ⟨v0, hc0⟩ := hc (k * 4) (by omega)
          obtain ⟨v1, hc1⟩ := hc (k * 4 + 1) (by omega)
          obtain ⟨v2, hc2⟩ := hc (k * 4 + 2) (by omega)
          obtain ⟨v3, hc3⟩ := hc (k * 4 + 3) (by omega)
          have hf : ∀ i, wr.frozen? ⟨g, i, none⟩ = false := fun i => frozen_of_row _ _ _ _ _ hg
          have HG := Lib.hid hg
          have HC := Lib.hid hcs
          clear hg hcs hc
          go_wp2
          go_roundw
          case rel =>
            obtain ⟨d0, e0, h0⟩ := set_blk HG.out (k * 4) (.int .i64 0)
            obtain ⟨d1, e1, h1⟩ := set_blk h0 (k * 4 + 1) (.int .i64 0)
            obtain ⟨d2, e2, h2⟩ := set_blk h1 (k * 4 + 2) (.int .i64 0)
            obtain ⟨d3, e3, h3⟩ := set_blk h2 (k * 4 + 3) (.slice none 0 0)
            have hne : ∀ q, bT ≤ q → g ≠ q := fun q hq => Nat.ne_of_lt (Nat.lt_of_lt_of_le HT.out.1 hq)
            exact ⟨k + 1, d3, by omega, by go_num, by rw [e3, e2, e1, e0]; exact HC.out, h3, fun q q1 q2 => ((((heap_setCell_other _ _ _ _ (hne q q1).symm).trans (heap_setCell_other _ _ _ _ (hne q q1).symm)).trans (heap_setCell_other _ _ _ _ (hne q q1).symm)).trans (heap_setCell_other _ _ _ _ (hne q q1).symm)).trans (HTOP2.out q q1 q2), (((hbl.setCell hbg _).setCell hbg _).setCell hbg _).setCell hbg _⟩
          case measure => simp [intOf]; omega
        · go_wp2
          go_end0
          exact ⟨rfl, hbl, HTOP2.out⟩
end Go.Proofs.YtepjpdhmjchakaaGreatDoor
