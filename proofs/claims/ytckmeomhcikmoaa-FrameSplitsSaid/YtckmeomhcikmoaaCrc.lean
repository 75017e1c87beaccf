/- The program crc.half, crc.More: what they return, for every sum and every slice of bytes. No condition beyond the slice being one. -/
import Derived.Test.YtckmeomhcikmoaaChecked
import Derived.Test.YtckmeomhcikmoaaBv
import Derived.Test.YtckmeomhcikmoaaCrcPlain
import Derived.Test.YtckmeomhcikmoaaMem
import Derived.Laws.CopyOwn
namespace Go.Proofs.Ytckmeomhcikmoaa
open Go.RowKit

/-- The half table, its first k entries filled. -/
def tc (k : Nat) : Array Value := ((List.range 16).map fun i => Value.int .u32 (if i < k then W32 (Crc.tab (BitVec.ofNat 32 i)) else 0)).toArray

theorem tc_size (k : Nat) : (tc k).size = 16 := by simp [tc]
theorem tc_get (k i : Nat) (hi : i < 16) : (tc k)[i]? = some (.int .u32 (if i < k then W32 (Crc.tab (BitVec.ofNat 32 i)) else 0)) := by
  simp [tc, hi]
theorem tc_set (k : Nat) (hk : k < 16) : (tc k).setIfInBounds k (.int .u32 (W32 (Crc.tab (BitVec.ofNat 32 k)))) = tc (k + 1) := by
  apply Array.ext_getElem?
  intro i
  rw [Array.getElem?_setIfInBounds]
  by_cases hi : i < 16
  · by_cases e : k = i
    · subst e
      rw [if_pos rfl, if_pos (by rw [tc_size]; exact hk), tc_get _ _ hi, if_pos (by omega)]
    · rw [if_neg e, tc_get _ _ hi, tc_get _ _ hi]
      have : i < k ↔ i < k + 1 := by omega
      simp [this]
  · have e : k ≠ i := by omega
    rw [if_neg e, Array.getElem?_eq_none (by rw [tc_size]; omega), Array.getElem?_eq_none (by rw [tc_size]; omega)]

theorem size84 : (Try.prog.info? 84).map (·.size) = some 16 := by kernel_rfl

theorem stp_mul (x : BitVec 32) : bits .xor .u32 (W32 (x >>> 1)) (2197175160 * W32 (x &&& 1#32) % 4294967296) = W32 (Crc.stp x) := by
  have h : x &&& 1#32 = if x.getLsbD 0 then 1#32 else 0#32 := by
    apply BitVec.eq_of_getLsbD_eq
    intro i hi
    rw [BitVec.getLsbD_and]
    cases i with
    | zero => cases x.getLsbD 0 <;> simp
    | succ k =>
      have h1 : (1#32).getLsbD (k + 1) = false := by simp
      rw [h1]; cases x.getLsbD 0 <;> simp
  rw [h]
  unfold Crc.stp
  cases x.getLsbD 0
  · rw [show (2197175160 * W32 (if false = true then 1#32 else 0#32) % 4294967296 : Int) = W32 0#32 from by decide, W32_xor]; rfl
  · rw [show (2197175160 * W32 (if true = true then 1#32 else 0#32) % 4294967296 : Int) = W32 0x82f63b78#32 from by decide, W32_xor]; rfl

theorem half_any (w : World) :
    Calls Try.prog 32 #[] w fun e w' => e = .returned (.agg (tc 16)) ∧ Below w.heap.size w w' := by
  go_enter Try.func32, Try.ntmps32
  go_wp2
  go_loopw [1, 2, 3] (fun _ _ i wr => ∃ k : Nat, k ≤ 16 ∧ i = .int .i64 k ∧ wr = w.alloc (.cells (tc k) 84)) (fun _ _ i _ => 16 - (intOf i).toNat)
  case atStart => exact ⟨0, by omega, rfl, rfl⟩
  case round =>
    obtain ⟨k, hk, rfl, rfl⟩ := hrel
    by_cases hlt : k < 16
    · have hcell := tc_get k k hlt
      go_wp2
      go_loop [2, 8] (fun v j => ∃ (m : Nat) (x : BitVec 32), m ≤ 4 ∧ j = .int .i64 m ∧ v = .int .u32 (W32 x) ∧ Crc.stps (4 - m) x = Crc.tab (BitVec.ofNat 32 k)) (fun _ j => 4 - (intOf j).toNat)
      case atStart => exact ⟨0, BitVec.ofNat 32 k, by omega, rfl, by unfold W32; rw [BitVec.toNat_ofNat, Nat.mod_eq_of_lt (by omega)], rfl⟩
      case round =>
        obtain ⟨m, x, hm, rfl, rfl, hx⟩ := hrel
        by_cases hm4 : m < 4
        · have HX := Lib.hid hx
          clear hx
          go_wp2
          go_round
          case rel =>
            refine ⟨m + 1, Crc.stp x, by omega, by go_num, by rw [← stp_mul], ?_⟩
            rw [← HX.out, show 4 - m = (4 - (m + 1)) + 1 from by omega]; rfl
          case measure => simp [intOf]; omega
        · have e4 : m = 4 := by omega
          subst e4
          have ex : x = Crc.tab (BitVec.ofNat 32 k) := hx
          subst ex
          clear hx
          go_wp2
          go_roundw
          case rel => exact ⟨k + 1, by omega, by go_num, by rw [tc_set k hlt]⟩
          case measure => simp [intOf]; omega
    · have e4 : k = 16 := by omega
      subst e4
      have hg := heap_alloc_new w (.cells (tc 16) 84)
      have h1 : (tc 16).all (·.oneCell') = true := by
        rw [Array.all_eq_true]; intro i hi
        have := tc_get 16 i (by rw [← tc_size 16]; exact hi)
        rw [Array.getElem?_eq_getElem hi] at this
        injection this with this
        rw [this]; rfl
      go_wp2_with (first
        | (with_reducible refine wpList_load_row rfl 84 _ rfl w.heap.size rfl 84 (tc 16) (0, 0) _ hg Try.underlying84 rfl (by rw [tc_size]; exact size84) ?_)
        | (with_reducible refine wpList_store_row rfl 84 _ _ rfl w.heap.size (tc 16) rfl rfl 84 (tc 16) hg (by rw [tc_size]; exact size84) rfl h1 ?_; rw [setRow_self _ _ _ _ _ hg]))
      exact bodyPost_ret (results_cell_row rfl _ _ w.heap.size 84 (tc 16) (0, 0) _ rfl hg Try.underlying84 rfl (by rw [tc_size]; exact size84)) rfl ⟨rfl, (Below.refl _ _).alloc (Nat.le_refl _) _⟩

theorem more_any (lo hi : Nat) (w : World) (s : BitVec 32) (v : Value) (l : List UInt8) (hv : Sl lo hi f8 w v l) (hhi : hi ≤ w.heap.size) :
    Calls Try.prog 14 #[.int .u32 (W32 s), v] w fun e w' => e = .returned (.int .u32 (W32 (Crc.more s l))) ∧ Below w.heap.size w w' := by
  obtain ⟨ao, cap, rfl, hl, _, hc⟩ := hv
  go_enter Try.func14, Try.ntmps14
  have h1 : (tc 16).all (·.oneCell') = true := by
    rw [Array.all_eq_true]; intro i hi
    have := tc_get 16 i (by rw [← tc_size 16]; exact hi)
    rw [Array.getElem?_eq_getElem hi] at this
    injection this with this
    rw [this]; rfl
  go_wp2_with (first | (go_at_call 32; refine (half_any _).mono ?_; rintro e w1 ⟨rfl, hb1⟩) | (with_reducible refine wpList_store_row rfl 84 _ _ rfl w1.heap.size (tc 16) rfl rfl 84 _ (heap_alloc_new _ _) (by rw [tc_size]; exact size84) rfl h1 ?_))
  generalize hW : World.setRow _ w1.heap.size (tc 16) = W
  have hg2 : W.heap[w1.heap.size]? = some (.cells (tc 16) 84 (0, 0)) := by rw [← hW]; exact setRow_heap _ _ _ _ _ _ (heap_alloc_new _ _)
  have hb2 : Below w.heap.size w W := by rw [← hW]; exact below_setRow (hb1.alloc hb1.size _) hb1.size _
  have hT : ∀ x : BitVec 32, x.toNat < 16 → W.cell? ⟨w1.heap.size, (W32 x).toNat, none⟩ = some (.int .u32 (W32 (Crc.tab x))) := by
    intro x hx
    rw [cell_of_row _ _ _ _ _ _ hg2, show (W32 x).toNat = x.toNat from rfl, tc_get _ _ hx, if_pos hx, BitVec.ofNat_toNat, BitVec.setWidth_eq]
  clear hg2 hW
  go_loop [6, 8, 14] (fun n _ i => ∃ (k : Nat) (x : BitVec 32), k ≤ l.length ∧ i = .int .i64 k ∧ n = .int .u32 (W32 x) ∧ x = Crc.run (~~~s) (l.take k)) (fun _ _ i => l.length - (intOf i).toNat)
  case atStart => exact ⟨0, ~~~s, by omega, rfl, rfl, rfl⟩
  case round =>
    obtain ⟨k, x, hk, rfl, rfl, hx⟩ := hrel
    have HX := Lib.hid hx
    clear hx
    by_cases hlt : k < l.length
    · obtain ⟨b, off, rfl, hlo, hb, hcell⟩ := hc (by intro e; subst e; simp at hlt)
      have hc1 : W.cell? ⟨b, off + k, none⟩ = some (.int .u8 (W8 l[k])) := (hb2.cell (p := ⟨b, off + k, none⟩) (by exact Nat.lt_of_lt_of_le hb hhi)).trans (hcell k hlt)
      clear hcell hc
      have h8 := W8_lt l[k]
      have m1 : ∀ y : BitVec 32, (y &&& 15#32).toNat < 16 := fun y => by rw [BitVec.toNat_and]; exact Nat.lt_of_le_of_lt Nat.and_le_right (by decide)
      have a1 : 0 ≤ W32 ((x ^^^ BitVec.setWidth 32 l[k].toBitVec) &&& 15#32) ∧ W32 ((x ^^^ BitVec.setWidth 32 l[k].toBitVec) &&& 15#32) < 16 := by
        have := m1 (x ^^^ BitVec.setWidth 32 l[k].toBitVec); unfold W32; omega
      have t1 := hT _ (m1 (x ^^^ BitVec.setWidth 32 l[k].toBitVec))
      have a2 : 0 ≤ W32 (((x ^^^ BitVec.setWidth 32 l[k].toBitVec) >>> 4 ^^^ Crc.tab ((x ^^^ BitVec.setWidth 32 l[k].toBitVec) &&& 15#32)) &&& 15#32) ∧
          W32 (((x ^^^ BitVec.setWidth 32 l[k].toBitVec) >>> 4 ^^^ Crc.tab ((x ^^^ BitVec.setWidth 32 l[k].toBitVec) &&& 15#32)) &&& 15#32) < 16 := by
        have := m1 ((x ^^^ BitVec.setWidth 32 l[k].toBitVec) >>> 4 ^^^ Crc.tab ((x ^^^ BitVec.setWidth 32 l[k].toBitVec) &&& 15#32)); unfold W32; omega
      have t2 := hT _ (m1 ((x ^^^ BitVec.setWidth 32 l[k].toBitVec) >>> 4 ^^^ Crc.tab ((x ^^^ BitVec.setWidth 32 l[k].toBitVec) &&& 15#32)))
      clear hT m1
      go_wp2
      go_round
      case rel =>
        refine ⟨k + 1, _, by omega, by go_num, rfl, ?_⟩
        rw [List.take_succ_eq_append_getElem hlt, Crc.run_snoc, ← HX.out, Crc.byt_two]
      case measure => simp [intOf]; omega
    · have e : k = l.length := by omega
      subst e
      have e2 : x = Crc.run (~~~s) l := by rw [HX.out, List.take_length]
      subst e2
      clear HX hT hc
      go_wp2
      go_ret
      exact ⟨rfl, hb2⟩
end Go.Proofs.Ytckmeomhcikmoaa
