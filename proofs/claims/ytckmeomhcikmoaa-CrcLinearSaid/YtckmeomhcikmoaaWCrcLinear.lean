/- The walk of CrcLinear. No condition. -/
import Derived.Test.YtckmeomhcikmoaaCrcKnown
import Derived.Test.YtckmeomhcikmoaaRow
import Derived.Test.YtckmeomhcikmoaaApp
import Derived.RegionTactic
import Derived.BigRegion
import Derived.Deep.RegionHeld3
import Derived.Deep.OwnRows
namespace Go.Proofs.Ytckmeomhcikmoaa.crcLinear
open Go.RowKit

/-- The first k bytes' exclusive or, noughts behind. -/
def xs (a b : List UInt8) (n k : Nat) : List UInt8 := List.zipWith (· ^^^ ·) (a.take k) (b.take k) ++ List.replicate (n - k) 0

theorem xs_get (a b : List UInt8) (n k : Nat) (hk : k < n) (h1 : n ≤ a.length) (h2 : n ≤ b.length) : (xs a b n k)[k]? = some 0 := by
  have hl : (List.zipWith (· ^^^ ·) (a.take k) (b.take k)).length = k := by simp; omega
  rw [xs, List.getElem?_append_right (by omega), hl, Nat.sub_self, List.getElem?_replicate, if_pos (by omega)]
theorem xs_step (a b : List UInt8) (n k : Nat) (hk : k < n) (h1 : n ≤ a.length) (h2 : n ≤ b.length) : (xs a b n k).set k (a[k]'(by omega) ^^^ b[k]'(by omega)) = xs a b n (k + 1) := by
  have hl : (List.zipWith (· ^^^ ·) (a.take k) (b.take k)).length = k := by simp; omega
  unfold xs
  rw [List.set_append_right _ _ (by omega), hl, Nat.sub_self, List.take_succ_eq_append_getElem (by omega : k < a.length), List.take_succ_eq_append_getElem (by omega : k < b.length),
    List.zipWith_append (by simp; omega), List.append_assoc]
  congr 1
  have e : n - k = (n - (k + 1)) + 1 := by omega
  rw [e, List.replicate_succ]
  simp
theorem xs_end (a b : List UInt8) (n : Nat) : xs a b n n = List.zipWith (· ^^^ ·) (a.take n) (b.take n) := by simp [xs]

theorem slc_take {α : Type} {lo hi : Nat} {f : α → Value} {w : World} {ao : Option Addr} {cap : Nat} {l : List α} (h : SlC lo hi f w ao cap l) (n : Nat) (hn : n ≤ l.length) : SlC lo hi f w ao cap (l.take n) := by
  have hl : (l.take n).length = n := by simp; omega
  refine ⟨by have := h.len; omega, h.nn, fun hne => ?_, by have := h.le; omega⟩
  have hp : 0 < n := by rcases Nat.eq_zero_or_pos n with e | e; (subst e; simp at hne); exact e
  obtain ⟨b, off, ha, h1, h2, hc⟩ := h.cells (by intro e; subst e; simp at hn; omega)
  refine ⟨b, off, ha, h1, h2, fun j hj => ?_⟩
  rw [hc j (by omega)]; simp
theorem part_sum {w wr : World} {ao : Option Addr} {cap k : Nat} {l : List UInt8} (hbr : Below w.heap.size w wr) (h : SlC 0 w.heap.size f8 w ao cap l) (hk : k ≤ l.length) :
    ∀ W, Below wr.heap.size wr W → Calls Try.prog 13 #[.slice ao k cap] W fun e w' => e = .returned (.int .u32 (W32 (Crc.sum (l.take k)))) ∧ Below W.heap.size W w' ∧ Below wr.heap.size wr w' := by
  intro W hW
  have hs : Sl 0 w.heap.size f8 W (.slice ao k cap) (l.take k) := ⟨ao, cap, by simp; omega, (slc_take h k hk).below (hbr.trans (hW.mono hbr.size)) (Nat.le_refl _)⟩
  exact (sum_any _ _ W _ _ hs (Nat.le_trans hbr.size hW.size)).mono fun e w' ⟨h1, h2⟩ => ⟨h1, h2, hW.trans (h2.mono hW.size)⟩
theorem whole_sum {lo : Nat} {wr : World} {v : Value} {l : List UInt8} (h : Sl lo wr.heap.size f8 wr v l) :
    ∀ W, Below wr.heap.size wr W → Calls Try.prog 13 #[v] W fun e w' => e = .returned (.int .u32 (W32 (Crc.sum l))) ∧ Below W.heap.size W w' ∧ Below wr.heap.size wr w' := by
  intro W hW
  exact (sum_any _ _ W _ _ (h.below hW (Nat.le_refl _)) hW.size).mono fun e w' ⟨h1, h2⟩ => ⟨h1, h2, hW.trans (h2.mono hW.size)⟩
theorem made_sum {wr : World} (k : Nat) (hk : k ≤ 140737488355328) :
    ∀ W W' : World, Below (W.heap.size + 1) (W.alloc (.cells (madeCells #[.int .u8 0] k) 5)) W' → Below wr.heap.size wr W' →
      Calls Try.prog 13 #[.slice (some ⟨W.heap.size, 0, none⟩) k k] W' fun e w' => e = .returned (.int .u32 (W32 (Crc.sum (List.replicate k 0)))) ∧ Below W'.heap.size W' w' ∧ Below wr.heap.size wr w' := by
  intro W W' h1 h2
  have hs : Sl W.heap.size (W.heap.size + 1) f8 (W.alloc (.cells (madeCells #[.int .u8 0] k) 5)) (.slice (some ⟨W.heap.size, 0, none⟩) k k) (List.replicate k (0 : UInt8)) := by
    refine Sl.lit8 W (List.replicate k 0) _ 5 ?_ (by simpa using hk) k (by simp)
    apply Array.toList_inj.1
    rw [toList_madeCells_one]; simp [f8, W8]
  have hz := h1.size
  simp at hz
  exact (sum_any _ _ W' _ _ (hs.below h1 (Nat.le_refl _)) hz).mono fun e w' ⟨a, b⟩ => ⟨a, b, h2.trans (b.mono h2.size)⟩

set_option maxRecDepth 100000 in
theorem walk (v0 : Value) (l0 : List UInt8) (v1 : Value) (l1 : List UInt8) (w : World) (w0 : Sl 0 w.heap.size f8 w v0 l0) (w1 : Sl 0 w.heap.size f8 w v1 l1) :
    Calls Try.prog 5 #[v0, v1] w fun e w' => e = .returned (.bool true) ∧ Below w.heap.size w w' := by
  obtain ⟨ao, cap, rfl, hv⟩ := w0
  obtain ⟨ao', cap', rfl, hv'⟩ := w1
  have hl := hv.len
  have hl' := hv'.len
  have HV := Lib.hid hv
  have HV' := Lib.hid hv'
  clear hv hv'
  obtain ⟨i0, hi0, hz0, hz1, hz2⟩ := info_parts info5
  obtain ⟨n, hn, hn1, hn2⟩ : ∃ n : Nat, (if l1.length < l0.length then (l1.length : Int) else (l0.length : Int)) = n ∧ n ≤ l0.length ∧ n ≤ l1.length := by
    by_cases h : l1.length < l0.length
    · exact ⟨l1.length, by rw [if_pos h], by omega, by omega⟩
    · exact ⟨l0.length, by rw [if_neg h], by omega, by omega⟩
  by_cases hbig : 100000 < n
  · go_enter Try.func5, Try.ntmps5
    go_wp2
    go_ret
    exact ⟨rfl, Below.refl _ _⟩
  · go_enter Try.func5, Try.ntmps5
    go_wp2_with (at_make; go_loud (refine wpList_make_full _ rfl _ _ 23 rfl w.heap.size 5 i0 (.int .u8 0) 1 Try.underlying23 hi0 hz0 hz1 .i64 .i64 _ _ n rfl rfl rfl rfl (by rw [hz2]; omega) (by unfold maxLen; omega) (Nat.le_refl _) ?_); intro w1 hown1 hgrow1)
    have hm : (madeCells (Value.int .u8 0).cells (n * 1)).toList = (xs l0 l1 n 0).map f8 := by
      rw [Nat.mul_one]
      show (madeCells #[Value.int .u8 0] n).toList = _
      rw [toList_madeCells_one]
      simp [xs, f8, W8]
    rw [hm] at hown1
    have hb1 := (Below.refl w.heap.size w).grown hgrow1 (Nat.le_refl _) (fun k h => by cases h)
    clear hm hgrow1
    go_loopw [7] (fun i wr => ∃ k : Nat, k ≤ n ∧ i = .int .i64 k ∧ wr.ownsRow w.heap.size 5 1 (.slice (some ⟨w.heap.size, 0, none⟩) n n) n ((xs l0 l1 n k).map f8) ∧ Below w.heap.size w wr) (fun i _ => n - (intOf i).toNat)
    case atStart => exact ⟨0, by omega, rfl, hown1, hb1⟩
    case round =>
      obtain ⟨k, hk, rfl, hown, hbr⟩ := hrel
      by_cases hlt : k < n
      · obtain ⟨b, off, rfl, _, hbw, hcell⟩ := HV.out.cells (by intro e; subst e; simp at hn1; omega)
        obtain ⟨b', off', rfl, _, hbw', hcell'⟩ := HV'.out.cells (by intro e; subst e; simp at hn2; omega)
        have hk1 : k < l0.length := by omega
        have hk2 : k < l1.length := by omega
        have c1 : wr.cell? ⟨b, off + k, none⟩ = some (.int .u8 (W8 l0[k])) := (hbr.cell (p := ⟨b, off + k, none⟩) hbw).trans (hcell k hk1)
        have c2 : wr.cell? ⟨b', off' + k, none⟩ = some (.int .u8 (W8 l1[k])) := (hbr.cell (p := ⟨b', off' + k, none⟩) hbw').trans (hcell' k hk2)
        have c3 : wr.cell? ⟨w.heap.size, k, none⟩ = some (.int .u8 0) := by
          rw [hown.cellAt _ (by omega)]
          rw [List.getElem?_map, xs_get l0 l1 n k hlt hn1 hn2]; rfl
        have c4 := hown.frozenAt k
        have HO := Lib.hid hown
        clear hown hown1 hcell hcell' hn
        go_wp2
        go_region
        all_goals go_wp2
        go_roundw
        case rel =>
          have hs := HO.out.stored k (.int .u8 (W8 (l0[k] ^^^ l1[k])))
          refine ⟨k + 1, by omega, by go_num, ?_, (hbr.setCell (by exact Nat.le_refl _) _).drew⟩
          rw [← xs_step l0 l1 n k hlt hn1 hn2, List.map_set]
          exact hs.1.drew
        case measure => simp [intOf]; omega
      · have e : k = n := by omega
        subst e
        rw [xs_end] at hown
        have hzl : (List.zipWith (· ^^^ ·) (l0.take k) (l1.take k)).length = k := by simp; omega
        have hsx : Sl w.heap.size wr.heap.size f8 wr (.slice (some ⟨w.heap.size, 0, none⟩) k k) (List.zipWith (· ^^^ ·) (l0.take k) (l1.take k)) := Sl.owns (by rw [hzl]; exact hown) (by omega)
        have HX := Lib.hid hsx
        have HZ := Lib.hid hzl
        clear hsx hzl hown hown1 hn
        have hca : k ≤ cap := Nat.le_trans hn1 HV.out.le
        have hca' : k ≤ cap' := Nat.le_trans hn2 HV'.out.le
        have hmk := run_make_row' (P := Try.prog) 23 5 (.int .u8 0) 1 Try.underlying23 info5 rfl .i64 .i64 k (by omega) (by omega)
        go_wp2
        have s0 : Below wr.heap.size wr wr.drew := (Below.refl _ _).drew
        have HA := Lib.hid (part_sum hbr HV.out hn1)
        have HB := Lib.hid (part_sum hbr HV'.out hn2)
        have HC := Lib.hid (whole_sum HX.out)
        have HY := Lib.hid (made_sum (wr := wr) k (by omega))
        have hfin : (W32 (Crc.sum (l0.take k) ^^^ Crc.sum (l1.take k) ^^^ Crc.sum (List.zipWith (· ^^^ ·) (l0.take k) (l1.take k)) ^^^ Crc.sum (List.replicate k 0)) == 0) = true := by
          have h := Crc.linear (l0.take k) (l1.take k) (by simp; omega)
          rw [List.length_take, Nat.min_eq_left hn1] at h
          rw [h]; rfl
        generalize Crc.sum (l0.take k) = sA at *
        generalize Crc.sum (l1.take k) = sB at *
        generalize Crc.sum (List.zipWith (· ^^^ ·) (l0.take k) (l1.take k)) = sC at *
        generalize Crc.sum (List.replicate k 0) = sY at *
        go_region_held3 (fun w' => Below wr.heap.size wr w') (first | assumption | (exact Below.alloc (by assumption) (Below.size (by assumption)) _)) (first
          | (go_at_call 16; refine (crcKnown_any _).mono ?_; rintro e w2 ⟨rfl, hb2⟩; have s2 : Below wr.heap.size wr w2 := s0.trans hb2)
          | (go_at_call 13; with_reducible refine Calls.mono (HA.out _ ?_) ?_; (first | assumption | exact Below.alloc (by assumption) (Below.size (by assumption)) _); rintro e w3 ⟨rfl, hb3, s3⟩)
          | (go_at_call 13; with_reducible refine Calls.mono (HB.out _ ?_) ?_; (first | assumption | exact Below.alloc (by assumption) (Below.size (by assumption)) _); rintro e w4 ⟨rfl, hb4, s4⟩)
          | (go_at_call 13; with_reducible refine Calls.mono (HC.out _ ?_) ?_; (first | assumption | exact Below.alloc (by assumption) (Below.size (by assumption)) _); rintro e w5 ⟨rfl, hb5, s5⟩)
          | (go_at_call 13; refine Calls.mono (HY.out _ _ ?_ ?_) ?_; (first | exact Below.refl _ _ | exact hb5.mono (by simp) | exact (hb4.mono (by simp)).trans (hb5.mono (by have := hb4.size; simp at this; omega)) | exact ((hb3.mono (by simp)).trans (hb4.mono (by have := hb3.size; simp at this; omega))).trans (hb5.mono (by have h3 := hb3.size; have h4 := hb4.size; simp at h3 h4; omega))); (first | assumption | exact Below.alloc (by assumption) (Below.size (by assumption)) _); rintro e w6 ⟨rfl, hb6, s6⟩))
        all_goals go_wp2
        all_goals go_ret
        all_goals exact ⟨rfl, hbr.trans (s6.mono hbr.size)⟩
end Go.Proofs.Ytckmeomhcikmoaa.crcLinear
