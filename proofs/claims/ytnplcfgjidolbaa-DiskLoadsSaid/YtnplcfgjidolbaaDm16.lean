/- LentBytes, WholeBytes, SpoilBytes; the same of bools; SameBools: what they do. Load: the program's, the reference's where it is refused; Sectors. A list of integers is put into the book. -/
import Derived.Test.YtnplcfgjidolbaaDm15
import Derived.Shelf.Spec.SlicesInsert
section
namespace Go.Proofs.Ytnplcfgjidolbaa
open Go.RowKit

set_option maxRecDepth 100000 in
theorem lent_any (lo hi : Nat) (w : World) (v : Value) (l : List UInt8) (hv : Sl lo hi f8 w v l) (hhi : hi ≤ w.heap.size) :
    Calls Try.prog 45 #[v] w fun e w' => ∃ g, e = .returned (.slice (some ⟨g, 0, none⟩) l.length (l.length + 2)) ∧ w.heap.size ≤ g ∧
      w'.heap[g]? = some (.cells (l.map f8 ++ [Value.int .u8 91, Value.int .u8 92]).toArray 5 (0, 0)) ∧ Below w.heap.size w w' := by
  obtain ⟨ao, cap, rfl, hv⟩ := hv
  have hl := hv.len
  obtain ⟨i0, hi0, hz0, hz1, hz2⟩ := info_parts info5
  go_enter Try.func45, Try.ntmps45
  go_wp2_with (first
    | (at_make; go_loud (refine wpList_make_own _ rfl _ _ 22 rfl w.heap.size 5 i0 (.int .u8 0) 1 Try.underlying22 hi0 hz0 hz1 .i64 .i64 _ (l.length + 2) rfl rfl (by simp) (by rw [hz2]; omega) (by unfold maxLen; omega) (Nat.le_refl _) ?_); intro w1 hown1 hgrow1)
    | (at_builtin; refine wpList_append_fits_any _ rfl (.tmp 8) (.tmp 9) 22 rfl w.heap.size 5 i0 1 Try.underlying22 hi0 hz1 _ 0 (l.length + 2) _ rfl hown1 ao l.length cap (l.map f8) rfl (by simp) hv.none (hv.below ((Below.refl _ _).grown hgrow1 (Nat.le_refl _) (by simp)) hhi).news (f8_one l) (by omega) ?_; intro w2 hown2 hgrow2; simp only [Nat.zero_add, List.nil_append] at hown2)
    | (at_builtin; refine wpList_append_fits _ rfl (.tmp 11) (.tmp 12) 22 rfl w.heap.size 5 i0 1 Try.underlying22 hi0 hz1 _ l.length (l.length + 2) _ rfl (hown2.alloc _) ⟨w2.heap.size, 0, none⟩ 2 2 [.int .u8 91, .int .u8 92] rfl rfl (news_alloc w2 [.int .u8 91, .int .u8 92] 5) (by simp [Value.oneCell']) (by omega) ?_; intro w3 hown3 hgrow3)
    )
  go_ret
  obtain ⟨_, hg⟩ := own_full hown3
  have hb1 := (Below.refl w.heap.size w).grown hgrow1 (Nat.le_refl _) (by simp)
  have hb2 := hb1.grown hgrow2 hb1.size (by simp)
  refine ⟨w.heap.size, rfl, Nat.le_refl _, hg, ?_⟩
  exact (hb2.alloc hb2.size _).grown hgrow3 (by have := hb2.size; simp; omega) (by simp)

theorem lent_sl {w : World} {g : Nat} {l : List UInt8} (hl : l.length ≤ 140737488355328) (hg : w.heap[g]? = some (.cells (l.map f8 ++ [Value.int .u8 91, Value.int .u8 92]).toArray 5 (0, 0))) :
    Sl g (g + 1) f8 w (.slice (some ⟨g, 0, none⟩) l.length (l.length + 2)) l := by
  refine ⟨_, _, rfl, hl, (fun h => by cases h), fun _ => ⟨g, 0, rfl, Nat.le_refl _, Nat.lt_succ_self _, fun j hj => ?_⟩, by omega⟩
  rw [cell_of_row _ _ _ _ _ _ hg]
  simp [List.getElem?_append_left, hj]

theorem whole_any (lo hi g : Nat) (w : World) (v' : Value) (l l' : List UInt8) (hl : l.length ≤ 140737488355328) (hg : w.heap[g]? = some (.cells (l.map f8 ++ [Value.int .u8 91, Value.int .u8 92]).toArray 5 (0, 0)))
    (hv' : Sl lo hi f8 w v' l') :
    Calls Try.prog 48 #[.slice (some ⟨g, 0, none⟩) l.length (l.length + 2), v'] w fun e w' => e = .returned (.bool (sameB l l')) ∧ ∃ n, w' = w.drewN n := by
  have hs := same_any g (g + 1) lo hi w _ v' l l' (lent_sl hl hg) hv'
  have c0 : w.cell? ⟨g, l.length, none⟩ = some (.int .u8 91) := by rw [cell_of_row _ _ _ _ _ _ hg]; simp
  have c1 : w.cell? ⟨g, l.length + 1, none⟩ = some (.int .u8 92) := by rw [cell_of_row _ _ _ _ _ _ hg]; simp
  have HS := Lib.hid hs
  clear hs hg
  go_enter Try.func48, Try.ntmps48
  go_wp2_with (go_at_call 16; refine HS.out.mono ?_; rintro e w1 ⟨rfl, n, rfl⟩)
  go_ret
  exact ⟨rfl, n, rfl⟩


theorem spoil_any (g n : Nat) (w : World) (cs : Array Value) (hn : n ≤ 140737488355330) (hcs : cs.size = n) (hg : w.heap[g]? = some (.cells cs 5 (0, 0))) (m : Nat) :
    Calls Try.prog 49 #[.slice (some ⟨g, 0, none⟩) m n] w fun e w' => e = .returned (.tuple #[]) ∧ w.grownBy w' (some g) := by
  go_enter Try.func49, Try.ntmps49
  go_wp2
  go_loopw [3] (fun i wr => ∃ (k : Nat) (cs' : Array Value), k ≤ n ∧ i = .int .i64 k ∧ cs'.size = n ∧ wr.heap[g]? = some (.cells cs' 5 (0, 0)) ∧ w.grownBy wr (some g)) (fun i _ => n - (intOf i).toNat)
  case atStart => exact ⟨0, cs, by omega, rfl, hcs, hg, World.grownBy.refl _ _⟩
  case round =>
    obtain ⟨k, cs', hk, rfl, hcs', hg', hgr⟩ := hrel
    by_cases hlt : k < n
    · have hc : ∃ v, wr.cell? ⟨g, k, none⟩ = some v := ⟨cs'[k]'(by omega), by rw [cell_of_row _ _ _ _ _ _ hg', Array.getElem?_eq_getElem]⟩
      obtain ⟨v, hc⟩ := hc
      have hf : wr.frozen? ⟨g, k, none⟩ = false := frozen_of_row _ _ _ _ _ hg'
      have HG := Lib.hid hg'
      have HC := Lib.hid hcs'
      clear hg' hcs' hg hcs
      go_wp2
      go_roundw
      case rel =>
        refine ⟨k + 1, cs'.setIfInBounds k (.int .u8 238), by omega, by go_num, by rw [Array.size_setIfInBounds]; exact HC.out, heap_setCell_same _ _ _ _ _ _ HG.out, ?_⟩
        exact ⟨hgr.os, hgr.tape, hgr.output, by simpa using hgr.size, fun i hi hne => (Below.heap_setCell _ _ _ _ (by intro e; exact hne (by rw [e]))).trans (hgr.block i hi hne)⟩
      case measure => simp [intOf]; omega
    · go_wp2
      go_end0
      exact ⟨rfl, hgr⟩
theorem info4 : (Try.prog.info? 4).map (fun i => (i.zero, i.size, i.bytes)) = some (some (.bool false), 1, 1) := by kernel_rfl
theorem fB_one (l : List Bool) : ∀ u ∈ l.map fB, u.oneCell' = true := by
  intro u hu
  obtain ⟨_, _, rfl⟩ := List.mem_map.1 hu
  rfl
def sameBs (a b : List Bool) : Bool := decide (a = b)

theorem sameBs_any (lo hi lo' hi' : Nat) (w : World) (v v' : Value) (l l' : List Bool) (hv : Sl lo hi fB w v l) (hv' : Sl lo' hi' fB w v' l') :
    Calls Try.prog 110 #[v, v'] w fun e w' => e = .returned (.bool (sameBs l l')) ∧ ∃ n, w' = w.drewN n := by
  obtain ⟨ao, cap, rfl, hl, _, hc⟩ := hv
  obtain ⟨ao', cap', rfl, hl', _, hc'⟩ := hv'
  by_cases hlen : l.length = l'.length
  · have hb : ((l.length : Int) != (l'.length : Int)) = false := by rw [hlen]; simp
    have HL := Lib.hid hlen
    clear hlen
    go_enter Try.func110, Try.ntmps110
    go_wp2
    go_loopw [5] (fun i wr => ∃ k n : Nat, k ≤ l.length ∧ i = .int .i64 k ∧ l.take k = l'.take k ∧ wr = w.drewN n) (fun i _ => l.length - (intOf i).toNat)
    case atStart => exact ⟨0, 0, by omega, rfl, rfl, rfl⟩
    case round =>
      obtain ⟨k, n, hk, rfl, ht, rfl⟩ := hrel
      have HT := Lib.hid ht
      clear ht
      by_cases hlt : k < l.length
      · obtain ⟨b, off, rfl, _, _, hcell⟩ := hc (by intro e; subst e; simp at hlt)
        have hlt' : k < l'.length := by have := HL.out; omega
        obtain ⟨b', off', rfl, _, _, hcell'⟩ := hc' (by intro e; subst e; simp at hlt')
        have hc1 : w.cell? ⟨b, off + k, none⟩ = some (.bool l[k]) := hcell k hlt
        have hc2 : w.cell? ⟨b', off' + k, none⟩ = some (.bool l'[k]) := hcell' k hlt'
        have i1 : (0 : Int) ≤ (k : Int) ∧ (k : Int) < (l.length : Int) := by omega
        have i2 : (0 : Int) ≤ (k : Int) ∧ (k : Int) < (l'.length : Int) := by omega
        clear hcell hcell' hc hc'
        go_wp2
        go_quiet (fail)
        go_wp2
        · have hne : l[k] ≠ l'[k] := by
            intro e
            have h : (l[k] != l'[k]) = true := by assumption
            rw [e] at h; simp at h
          go_ret
          refine ⟨?_, n + nq, by rw [World.drewN_drewN]⟩
          have hs : sameBs l l' = false := by
            unfold sameBs; rw [decide_eq_false_iff_not]; intro e; subst e; exact hne rfl
          rw [hs]; rfl
        · have he : l[k] = l'[k] := by
            have h : (l[k] != l'[k]) = false := by assumption
            simpa using h
          go_roundw
          case rel =>
            exact ⟨k + 1, _, by omega, by go_num, by rw [List.take_succ_eq_append_getElem hlt, List.take_succ_eq_append_getElem hlt', HT.out, he], rfl⟩
          case measure => simp [intOf]; omega
      · have e : k = l.length := by omega
        subst e
        have e2 : l = l' := by
          have h1 := HT.out
          have h2 := HL.out
          rw [List.take_length, h2, List.take_length] at h1
          exact h1
        subst e2
        clear HT HL hb hc hc'
        go_wp2
        go_ret
        exact ⟨by rw [show sameBs l l = true from by simp [sameBs]]; rfl, _, rfl⟩
  · have hb : ((l.length : Int) != (l'.length : Int)) = true := by simp; omega
    go_enter Try.func110, Try.ntmps110
    go_wp2
    go_ret
    refine ⟨?_, 0, rfl⟩
    have hs : sameBs l l' = false := by
      unfold sameBs; rw [decide_eq_false_iff_not]; intro e; subst e; exact hlen rfl
    rw [hs]; rfl
set_option maxRecDepth 100000 in
theorem lentB_any (lo hi : Nat) (w : World) (v : Value) (l : List Bool) (hv : Sl lo hi fB w v l) (hhi : hi ≤ w.heap.size) :
    Calls Try.prog 101 #[v] w fun e w' => ∃ g, e = .returned (.slice (some ⟨g, 0, none⟩) l.length (l.length + 2)) ∧ w.heap.size ≤ g ∧
      w'.heap[g]? = some (.cells (l.map fB ++ [Value.bool true, Value.bool false]).toArray 4 (0, 0)) ∧ Below w.heap.size w w' := by
  obtain ⟨ao, cap, rfl, hv⟩ := hv
  have hl := hv.len
  obtain ⟨i0, hi0, hz0, hz1, hz2⟩ := info_parts info4
  go_enter Try.func101, Try.ntmps101
  go_wp2_with (first
    | (at_make; go_loud (refine wpList_make_own _ rfl _ _ 108 rfl w.heap.size 4 i0 (.bool false) 1 Try.underlying108 hi0 hz0 hz1 .i64 .i64 _ (l.length + 2) rfl rfl (by simp) (by rw [hz2]; omega) (by unfold maxLen; omega) (Nat.le_refl _) ?_); intro w1 hown1 hgrow1)
    | (at_builtin; refine wpList_append_fits_any _ rfl (.tmp 8) (.tmp 9) 108 rfl w.heap.size 4 i0 1 Try.underlying108 hi0 hz1 _ 0 (l.length + 2) _ rfl hown1 ao l.length cap (l.map fB) rfl (by simp) hv.none (hv.below ((Below.refl _ _).grown hgrow1 (Nat.le_refl _) (by simp)) hhi).news (fB_one l) (by omega) ?_; intro w2 hown2 hgrow2; simp only [Nat.zero_add, List.nil_append] at hown2)
    | (at_builtin; refine wpList_append_fits _ rfl (.tmp 11) (.tmp 12) 108 rfl w.heap.size 4 i0 1 Try.underlying108 hi0 hz1 _ l.length (l.length + 2) _ rfl (hown2.alloc _) ⟨w2.heap.size, 0, none⟩ 2 2 [.bool true, .bool false] rfl rfl (news_alloc w2 [.bool true, .bool false] 4) (by simp [Value.oneCell']) (by omega) ?_; intro w3 hown3 hgrow3)
    )
  go_ret
  obtain ⟨_, hg⟩ := own_full hown3
  have hb1 := (Below.refl w.heap.size w).grown hgrow1 (Nat.le_refl _) (by simp)
  have hb2 := hb1.grown hgrow2 hb1.size (by simp)
  refine ⟨w.heap.size, rfl, Nat.le_refl _, hg, ?_⟩
  exact (hb2.alloc hb2.size _).grown hgrow3 (by have := hb2.size; simp; omega) (by simp)

theorem lentB_sl {w : World} {g : Nat} {l : List Bool} (hl : l.length ≤ 140737488355328) (hg : w.heap[g]? = some (.cells (l.map fB ++ [Value.bool true, Value.bool false]).toArray 4 (0, 0))) :
    Sl g (g + 1) fB w (.slice (some ⟨g, 0, none⟩) l.length (l.length + 2)) l := by
  refine ⟨_, _, rfl, hl, (fun h => by cases h), fun _ => ⟨g, 0, rfl, Nat.le_refl _, Nat.lt_succ_self _, fun j hj => ?_⟩, by omega⟩
  rw [cell_of_row _ _ _ _ _ _ hg]
  simp [List.getElem?_append_left, hj]

theorem wholeB_any (lo hi g : Nat) (w : World) (v' : Value) (l l' : List Bool) (hl : l.length ≤ 140737488355328) (hg : w.heap[g]? = some (.cells (l.map fB ++ [Value.bool true, Value.bool false]).toArray 4 (0, 0)))
    (hv' : Sl lo hi fB w v' l') :
    Calls Try.prog 103 #[.slice (some ⟨g, 0, none⟩) l.length (l.length + 2), v'] w fun e w' => e = .returned (.bool (sameBs l l')) ∧ ∃ n, w' = w.drewN n := by
  have hs := sameBs_any g (g + 1) lo hi w _ v' l l' (lentB_sl hl hg) hv'
  have c0 : w.cell? ⟨g, l.length, none⟩ = some (.bool true) := by rw [cell_of_row _ _ _ _ _ _ hg]; simp
  have c1 : w.cell? ⟨g, l.length + 1, none⟩ = some (.bool false) := by rw [cell_of_row _ _ _ _ _ _ hg]; simp
  have HS := Lib.hid hs
  clear hs hg
  go_enter Try.func103, Try.ntmps103
  go_wp2_with (go_at_call 110; refine HS.out.mono ?_; rintro e w1 ⟨rfl, n, rfl⟩)
  go_ret
  exact ⟨rfl, n, rfl⟩


theorem spoilB_any (g n : Nat) (w : World) (cs : Array Value) (hn : n ≤ 140737488355330) (hcs : cs.size = n) (hg : w.heap[g]? = some (.cells cs 4 (0, 0))) (m : Nat) :
    Calls Try.prog 104 #[.slice (some ⟨g, 0, none⟩) m n] w fun e w' => e = .returned (.tuple #[]) ∧ w.grownBy w' (some g) := by
  go_enter Try.func104, Try.ntmps104
  go_wp2
  go_loopw [3] (fun i wr => ∃ (k : Nat) (cs' : Array Value), k ≤ n ∧ i = .int .i64 k ∧ cs'.size = n ∧ wr.heap[g]? = some (.cells cs' 4 (0, 0)) ∧ w.grownBy wr (some g)) (fun i _ => n - (intOf i).toNat)
  case atStart => exact ⟨0, cs, by omega, rfl, hcs, hg, World.grownBy.refl _ _⟩
  case round =>
    obtain ⟨k, cs', hk, rfl, hcs', hg', hgr⟩ := hrel
    by_cases hlt : k < n
    · have hc : ∃ v, wr.cell? ⟨g, k, none⟩ = some v := ⟨cs'[k]'(by omega), by rw [cell_of_row _ _ _ _ _ _ hg', Array.getElem?_eq_getElem]⟩
      obtain ⟨v, hc⟩ := hc
      have hf : wr.frozen? ⟨g, k, none⟩ = false := frozen_of_row _ _ _ _ _ hg'
      have HG := Lib.hid hg'
      have HC := Lib.hid hcs'
      clear hg' hcs' hg hcs
      go_wp2
      go_roundw
      case rel =>
        refine ⟨k + 1, cs'.setIfInBounds k (.bool true), by omega, by go_num, by rw [Array.size_setIfInBounds]; exact HC.out, heap_setCell_same _ _ _ _ _ _ HG.out, ?_⟩
        exact ⟨hgr.os, hgr.tape, hgr.output, by simpa using hgr.size, fun i hi hne => (Below.heap_setCell _ _ _ _ (by intro e; exact hne (by rw [e]))).trans (hgr.block i hi hne)⟩
      case measure => simp [intOf]; omega
    · go_wp2
      go_end0
      exact ⟨rfl, hgr⟩

/-- A lent row, as a row of the call's own. -/
theorem lent_own {w : World} {g : Nat} {l : List UInt8} (hl : l.length ≤ 140737488355328) (hg : w.heap[g]? = some (.cells (l.map f8 ++ [Value.int .u8 91, Value.int .u8 92]).toArray 5 (0, 0))) : w.ownsRow g 5 1 (.slice (some ⟨g, 0, none⟩) l.length (l.length + 2)) l.length (l.map f8) :=
  ⟨by simp, .inr ⟨g, l.length + 2, _, rfl, Nat.le_refl _, hg, by omega, by unfold maxLen; omega, by simp, by simp⟩⟩
end Go.Proofs.Ytnplcfgjidolbaa
end
section
namespace Go.Proofs.Ytnplcfgjidolbaa
open Go.RowKit Go.Maps

set_option maxRecDepth 100000 in
theorem sectors_any {w : World} {base B lb bm : Nat} {cv : Value} {d : Dsk} (h : Dk w base B lb bm cv d) : Calls Try.prog 96 #[.pointer (some ⟨B, 0, none⟩)] w fun e w' => e = .returned (.int .i64 (d.ls.length : Int)) ∧ w = w' := by
  obtain ⟨c0, -, -, -, -, -, -, -, -⟩ := h.cells
  clear h
  go_enter Try.func96, Try.ntmps96
  go_wp2
  go_ret
  exact ⟨rfl, rfl⟩

set_option maxHeartbeats 1000000 in
set_option maxRecDepth 100000 in
theorem rload_bad (w : World) (ao : Option Addr) (N cap : Nat) (h : N = 0 ∨ N % 256 ≠ 0 ∨ 4194304 < N) :
    Calls Try.prog 47 #[.slice ao N cap] w fun e w' => e = .returned (.tuple #[.pointer none, .int .u16 50]) ∧ w = w' := by
  by_cases h0 : N = 0
  · have g0 : ((N : Int) == 0) = true := by simp [h0]
    clear h h0
    go_enter Try.func47, Try.ntmps47
    go_wp2
    go_ret2
    exact ⟨rfl, rfl⟩
  · have g0 : ((N : Int) == 0) = false := by simp [h0]
    by_cases h1 : N % 256 = 0
    · have g1 : ((N : Int) % 256 != 0) = false := by simp; omega
      have g2 : decide (4194304 < (N : Int)) = true := decide_eq_true (by omega)
      clear h h0 h1
      go_enter Try.func47, Try.ntmps47
      go_wp2
      go_ret2
      exact ⟨rfl, rfl⟩
    · have g1 : ((N : Int) % 256 != 0) = true := by simp; omega
      clear h h0 h1
      go_enter Try.func47, Try.ntmps47
      go_wp2
      go_ret2
      exact ⟨rfl, rfl⟩

set_option maxHeartbeats 1000000 in
set_option maxRecDepth 100000 in
theorem dload_bad (w : World) (ao : Option Addr) (N cap : Nat) (h : N = 0 ∨ N % 256 ≠ 0 ∨ 4194304 < N) (hN : N ≤ 140737488355328) :
    Calls Try.prog 46 #[.slice ao N cap] w fun e w' => e = .returned (.tuple #[.pointer none, .int .u16 50]) ∧ w = w' := by
  by_cases h1 : N % 256 = 0
  · have g1 : ((N : Int) % 256 != 0) = false := by simp; omega
    have hb : ((N : Int) / 256 < 1 ∨ 16384 < (N : Int) / 256) := by omega
    obtain ⟨q, hq⟩ : ∃ q : Int, q = (N : Int) / 256 := ⟨_, rfl⟩
    have hwq : wrap64 q = q := by rw [hq]; unfold wrap64; omega
    rw [← hq] at hb
    have hq' := hq.symm
    have HB := Lib.hid hb
    clear h h1 hb hq
    go_enter Try.func46, Try.ntmps46
    go_wp2_with (go_at_call 29; refine (dnew_bad _ _ HB.out).mono ?_; rintro e wz ⟨rfl, hw1⟩; have hw2 := hw1.symm; clear hw1; subst hw2)
    go_ret2
    exact ⟨rfl, rfl⟩
  · have g1 : ((N : Int) % 256 != 0) = true := by simp; omega
    clear h h1
    go_enter Try.func46, Try.ntmps46
    go_wp2
    go_ret2
    exact ⟨rfl, rfl⟩

/-- A disk whose first sectors have a text's. -/
def filled (l : List UInt8) (n k : Nat) : Dsk := { newDsk n with ls := sects l k ++ List.replicate (n - k) (List.replicate 256 0) }
theorem fill_len (l : List UInt8) (z : List UInt8) (n k : Nat) (h : k ≤ n) : (sects l k ++ List.replicate (n - k) z).length = n := by rw [List.length_append, sects_len, List.length_replicate]; omega
theorem fill_succ (l : List UInt8) (z : List UInt8) (n k : Nat) (h : k < n) : sects l (k + 1) ++ List.replicate (n - (k + 1)) z = (sects l k ++ List.replicate (n - k) z).set k ((l.drop (k * 256)).take 256) := by
  rw [List.set_append_right _ _ (by rw [sects_len]; exact Nat.le_refl _), sects_len, Nat.sub_self, show n - k = (n - (k + 1)) + 1 by omega, List.replicate_succ, List.set_cons_zero, sects_succ, List.append_assoc]
  rfl
theorem filled_len (l : List UInt8) (n k : Nat) (h : k ≤ n) : (filled l n k).ls.length = n := fill_len l _ n k h
theorem filled_succ (l : List UInt8) (n k : Nat) (h : k < n) : filled l n (k + 1) = { filled l n k with ls := (filled l n k).ls.set k ((l.drop (k * 256)).take 256) } := by
  unfold filled
  rw [fill_succ l _ n k h]
theorem filled_zero (l : List UInt8) (n : Nat) : filled l n 0 = newDsk n := rfl
theorem filled_all (l : List UInt8) (n : Nat) : filled l n n = loaded l n := by
  unfold filled loaded
  rw [Nat.sub_self, List.replicate_zero, List.append_nil]
  rfl

set_option maxHeartbeats 2000000 in
set_option maxRecDepth 100000 in
theorem dload_any (w : World) (bb off cap n N : Nat) (l : List UInt8) (hv : SlC 0 w.heap.size f8 w (some ⟨bb, off, none⟩) cap l) (h0 : 0 < n) (hN : l.length = N) (hn : N = n * 256) (hl : n ≤ 16384) :
    Calls Try.prog 46 #[.slice (some ⟨bb, off, none⟩) N cap] w fun e w' => ∃ B lb bm, e = .returned (.tuple #[.pointer (some ⟨B, 0, none⟩), .int .u16 0]) ∧ Dk w' w.heap.size B lb bm (.slice none 0 0) (loaded l n) ∧ Below w.heap.size w w' := by
  have hcap : N ≤ cap := hN ▸ hv.le
  have g1 : ((N : Int) % 256 != 0) = false := by simp; omega
  have hq : (N : Int) / 256 = (n : Int) := by omega
  have hwq : wrap64 (n : Int) = (n : Int) := by unfold wrap64; omega
  have HV := Lib.hid hv
  have HLN := Lib.hid hN
  have HNN := Lib.hid hn
  have hN0 : 0 < N := by omega
  have HH0 := Lib.hid (show (1 : Int) ≤ (n : Int) ∧ (n : Int) ≤ 16384 by omega)
  clear hv hn hN
  go_enter Try.func46, Try.ntmps46
  go_wp2_with fail
  refine (dnew_any _ _ HH0.out.1 HH0.out.2).mono ?_
  rintro e w1 ⟨B, lb, bm, rfl, hd1, hb1⟩
  obtain ⟨c0, -, -, -, -, -, -, -, -⟩ := hd1.cells
  rw [Int.toNat_natCast] at hd1 c0
  have e1 : (newDsk n).ls.length = n := by unfold newDsk; simp
  rw [e1] at c0
  have HD1 := Lib.hid hd1
  have HB1 := Lib.hid hb1
  clear hd1 hb1 e1
  go_wp2
  go_loopw [26] (fun i wr => ∃ k : Nat, k ≤ n ∧ i = .int .i64 k ∧ Dk wr w.heap.size B lb bm (.slice none 0 0) (filled l n k) ∧ Below w.heap.size w wr) (fun i _ => n - (intOf i).toNat)
  case atStart => exact ⟨0, Nat.zero_le _, rfl, by rw [filled_zero]; exact HD1.out, HB1.out⟩
  case round =>
    obtain ⟨k, hk, rfl, hd, hbel⟩ := hrel
    have HD := Lib.hid hd
    have HBL := Lib.hid hbel
    have hfl := filled_len l n k hk
    obtain ⟨d0, -, -, -, -, -, -, -, -⟩ := hd.cells
    rw [hfl] at d0
    by_cases hlt : k < n
    · have hm2 : k * 256 + 256 ≤ N := by have := HNN.out; have : (k + 1) * 256 ≤ n * 256 := Nat.mul_le_mul_right _ hlt; omega
      obtain ⟨m, hm⟩ : ∃ m, m = k * 256 := ⟨_, rfl⟩
      rw [← hm] at hm2
      have i1 : (0 : Int) ≤ (k : Int) ∧ (k : Int) < (n : Int) := by omega
      have hw1 : IntKind.i64.wrap ((k : Int) * 256) = (m : Int) := by rw [IntKind.wrap_i64]; omega
      have hw2 : (0 : Int) ≤ (m : Int) ∧ (m : Int) ≤ (N : Int) := by omega
      have hw4 : ¬ cap = m := by omega
      obtain ⟨sc, hsc⟩ : ∃ sc, sc = (l.drop m).take 256 := ⟨_, rfl⟩
      have hscl : sc.length = 256 := by rw [hsc]; have := HLN.out; simp; omega
      have hsl := slice168' lb m
      have HSC := Lib.hid hsc
      have HSL := Lib.hid hscl
      have HM := Lib.hid hm
      have hlas := hd.las
      have hlz : ((filled l n k).ls.flatMap sec).length = n * 256 := by
        rw [flat_len (g := sec) (m := 256) _ (fun s hs => by rw [sec_len]; exact hd.ok.1 s hs), hfl]
      have hkn : k * 256 + 256 ≤ n * 256 := by have := HNN.out; omega
      have hnews : ∀ (j : Nat) (u : Value), (sec sc)[j]? = some u → wr.drew.cell? ((⟨bb, off + m, none⟩ : Addr).add j) = some u := fun j u hu => by
        obtain ⟨b2, o2, e2, _, h3, h4⟩ := (HV.out.below hbel (Nat.le_refl _)).cells (by intro e; have := HLN.out; rw [e] at this; simp at this; omega)
        injection e2 with e2
        injection e2 with e3 e4
        subst e3 e4
        have hj : j < 256 := by have := (List.getElem?_eq_some_iff.1 hu).1; rw [sec_len, hscl] at this; exact this
        have h5 := h4 (m + j) (by have := HLN.out; omega)
        have h6 : wr.drew.cell? ⟨bb, off + m + j, none⟩ = some (f8 (l[m + j]'(by have := HLN.out; omega))) := by
          rw [Nat.add_assoc]
          exact h5
        rw [Addr.add_lit, h6, ← hu]
        unfold sec
        rw [List.getElem?_map, hsc, List.getElem?_take, if_pos hj, List.getElem?_drop, List.getElem?_eq_getElem (by have := HLN.out; omega)]
        rfl
      have hcp := Lib.hid (run_copy_cells (P := Try.prog) wr.drew 22 22 3 5 lb (k * 256) 256 256 ⟨bb, off + m, none⟩ (N - m) (cap - m) (sec sc) Try.underlying22 (by kernel_rfl) (by rw [sec_len, hscl]; exact (Nat.min_eq_right (by omega)).symm) hnews
        (fun j hj => by
          rw [sec_len, hscl] at hj
          rw [show wr.drew.cell? ⟨lb, k * 256 + j, none⟩ = wr.cell? ⟨lb, k * 256 + j, none⟩ from rfl, cell_of_row _ _ _ _ _ _ hlas, Array.getElem?_eq_getElem (by simp only [List.size_toArray]; omega)]
          rfl)
        (fun j hj => frozen_of_row _ _ _ _ _ hlas) (f8_one _))
      clear hm hsc hscl hd hbel hfl hlas hlz hnews
      go_wp2
      go_region_law (refine step_copy_runI rfl (.tmp 35) (.tmp 39) 22 22 rfl _ _ rfl rfl hcp.out ?_)
      all_goals go_wp2
      obtain ⟨f1, f2⟩ := (HD.out.below (drew_b wr)).last k (by rw [filled_len l n k hk]; exact hlt) sc HSL.out
      refine ⟨⟨k + 1, by omega, by push_cast; rfl, ?_, (HBL.out.trans ((drew_b wr).mono HBL.out.size)).trans f2.below⟩, by simp [intOf]; omega⟩
      rw [filled_succ l n k hlt, ← HM.out, ← HSC.out]
      have e : k * 256 = m := HM.out.symm
      rw [e] at f1
      first | exact f1 | (rw [e]; exact f1)
    · obtain rfl : k = n := by omega
      go_wp2
      go_ret2
      exact ⟨_, _, _, rfl, by rw [← filled_all]; exact HD.out, HBL.out⟩
end Go.Proofs.Ytnplcfgjidolbaa
end
section
namespace Go.Proofs.Ytnplcfgjidolbaa
open Go.RowKit

set_option maxRecDepth 100000 in
theorem bookInts_any (w : World) (base B : Nat) (vb : Value) (vs : List Value) (ln : Nat → Nat) (vi : Value) (us : List Value) (lm : Nat → Nat) (v : Value) (n : Nat) (xs : List Value) (h : Book w base B vb vs ln vi us lm) (hv : w.ownsRow base 3 1 v n xs)
    (hfr : ∀ u ∈ us, ∀ k, u.ownBlock = some k → v.ownBlock ≠ some k) (hN : us.length < 1000000000) (hb : base ≤ w.heap.size) :
    Calls Try.prog 105 #[.pointer (some ⟨B, 0, none⟩), v] w fun e w' => e = .returned (.tuple #[]) ∧ ∃ vi', Book w' base B vb vs ln vi' (us ++ [v]) (fun j => if j = us.length then n else lm j) ∧ Gro B vi.ownBlock w w' ∧ Anew w vi.ownBlock vi'.ownBlock := by
  obtain ⟨i1, hi1, hy0, hy1, hy2⟩ := info_parts info96
  have c0 := (book_cells h.cell).2.2.1
  have hBl := heap_lt h.cell
  have hvbB := own_block_ne h.ints.row h.cell (by decide)
  obtain ⟨av, cv, rfl⟩ := own_slice hv
  have HB := Lib.hid h
  have HV := Lib.hid hv
  clear h hv
  go_enter Try.func105, Try.ntmps105
  go_wp2_with (at_builtin; refine wpList_append_stay _ rfl (.tmp 8) (.tmp 10) 45 rfl base 96 i1 (.slice none 0 0) 24 und45 hi1 hy0 hy1 hy2 rfl vi us.length _ rfl (HB.out.ints.row.alloc _) ⟨w.heap.size, 0, none⟩ 1 (.slice av n cv) rfl (news_alloc w [.slice av n cv] 96) rfl (by unfold maxLen; omega) (by omega) (by simp; omega) ?_; intro g cap w1 hown1 hst1 hgl; have hcell1 := (hst1.grown.block B (by simp; omega) (fun e => hvbB e.symm)).trans ((Below.heap_alloc w _ B hBl).trans HB.out.cell); have d0 := (book_cells hcell1).2.2.1; have dz : w1.frozen? ⟨B, 2, none⟩ = false := frozen_of_row _ _ _ _ _ hcell1; have HO1 := Lib.hid hown1; have HS1 := Lib.hid hst1; have HC1 := Lib.hid hcell1; clear hown1 hst1 hcell1 hgl)
  go_end0
  have hgr := grown_alloc HS1.out.grown
  have hgB : g ≠ B := fun e => own_block_ne HO1.out HC1.out (by decide) (by rw [e]; rfl)
  have key : ∀ {e : TypeId} {u : Value} {m : Nat} {zs : List Value}, w.ownsRow base e 1 u m zs → e ≠ 96 → e ≠ 76 → (w1.setCell ⟨B, 2, none⟩ (.slice (some ⟨g, 0, none⟩) (us.length + 1) cap)).ownsRow base e 1 u m zs := by
    intro e u m zs hu h1 h2
    have hu1 : w1.ownsRow base e 1 u m zs := hu.kept hgr (by
      rcases hub : u.ownBlock with _ | k
      · exact .inl rfl
      · exact .inr (fun e1 => own_apart hu HB.out.ints.row h1 k hub e1.symm))
    refine own_of_same hu1 (fun k hk => heap_setCell_other _ _ _ _ (fun e1 => ?_))
    exact own_block_ne hu1 HC1.out h2 (by rw [hk, e1])
  have hown2 : (w1.setCell ⟨B, 2, none⟩ (.slice (some ⟨g, 0, none⟩) (us.length + 1) cap)).ownsRow base 96 1 (.slice (some ⟨g, 0, none⟩) (us.length + 1) cap) (us.length + 1) (us ++ [.slice av n cv]) :=
    own_of_same HO1.out (fun k hk => heap_setCell_other _ _ _ _ (by injection hk with hk; exact fun e => hgB (hk.trans e)))
  refine ⟨rfl, .slice (some ⟨g, 0, none⟩) (us.length + 1) cap, ⟨?_, ?_, ?_, HB.out.apt, HB.out.apti.snoc hfr⟩, ?_, ?_⟩
  · rw [heap_setCell_same _ _ _ _ _ _ HC1.out]; rfl
  · exact Bk.start (key HB.out.bytes.row (by decide) (by decide)) (fun j u hu => by obtain ⟨zs, hz, _⟩ := HB.out.bytes.rows j u hu; exact ⟨zs, key hz (by decide) (by decide)⟩)
  · refine Bk.start (by rw [List.length_append]; exact hown2) (fun j u hu => ?_)
    by_cases hj : j < us.length
    · rw [List.getElem?_append_left hj] at hu
      obtain ⟨zs, hz, _⟩ := HB.out.ints.rows j u hu
      refine ⟨zs, ?_⟩
      rw [if_neg (by omega)]
      exact key hz (by decide) (by decide)
    · rw [List.getElem?_append_right (by omega)] at hu
      rcases Nat.eq_zero_or_pos (j - us.length) with h0 | h0
      · rw [h0] at hu
        simp at hu
        subst hu
        refine ⟨xs, ?_⟩
        rw [if_pos (by omega)]
        exact key HV.out (by decide) (by decide)
      · rw [List.getElem?_eq_none (by simp; omega)] at hu; cases hu
  · refine ⟨hgr.os, hgr.tape, hgr.output, by simpa using hgr.size, fun k hk h1 h2 => ?_⟩
    rw [heap_setCell_other _ _ _ _ h1]
    exact hgr.block k hk h2
  · intro k hk
    injection hk with hk
    have hk2 : g = k := hk
    rcases HS1.out with ⟨h1, _⟩ | ⟨h1, _⟩
    · left; rw [h1]; exact congrArg some hk2
    · right; rw [← hk2, h1]; simp
end Go.Proofs.Ytnplcfgjidolbaa
end
