import Derived.Test.YtepjpdhmjchakaaGreatDoorP2
import Derived.Deep.QuietTactic
import Derived.BigQuiet
import Derived.Test.YtepjpdhmjchakaaGreatDoorP1
/- The program's bit reader: its contracts. -/
namespace Go.Proofs.YtepjpdhmjchakaaGreatDoor
open Go.RowKit

/-- A reader at block B of the bytes l, so far on. -/
structure Rd (w : World) (B : Nat) (v : Value) (at_ : Nat) (l : List UInt8) (lo hi : Nat) : Prop where
  cells : w.heap[B]? = some (.cells #[v, .int .i64 (at_ : Int)] 237 (0, 0))
  data : Sl lo hi f8 w v l
  apart : B < lo ∨ hi ≤ B
  le : at_ ≤ 8 * l.length

theorem own_slice {w : World} {base : Nat} {e : TypeId} {size : Nat} {v : Value} {n : Nat} {xs : List Value} (h : w.ownsRow base e size v n xs) : ∃ ao cap, v = .slice ao n cap := by
  obtain ⟨_, ⟨rfl, rfl⟩ | ⟨g, cap, cur, rfl, _⟩⟩ := h
  · exact ⟨_, _, rfl⟩
  · exact ⟨_, _, rfl⟩

theorem read_any (lo hi : Nat) (w : World) (v : Value) (l : List UInt8) (hv : Sl lo hi f8 w v l) (hhi : hi ≤ w.heap.size) :
    Calls Tryz.prog 93 #[v] w fun e w' => ∃ B v' hi', e = .returned (.pointer (some ⟨B, 0, none⟩)) ∧ w.heap.size ≤ B ∧ Rd w' B v' 0 l w.heap.size hi' ∧ Below w.heap.size w w' ∧ hi' ≤ w'.heap.size ∧ B < w'.heap.size := by
  have hl := hv.len
  go_enter Tryz.func93, Tryz.ntmps93
  go_wp2_with (go_at_call 86; refine (clone_any lo hi _ v l hv hhi).mono ?_; rintro e w1 ⟨v', rfl, hown, hb⟩; obtain ⟨ao', cap', rfl⟩ := own_slice hown)
  go_ret
  refine ⟨w1.heap.size, _, w1.heap.size, rfl, hb.size, ⟨heap_alloc_new _ _, ?_, Or.inr (Nat.le_refl _), Nat.zero_le _⟩, hb.alloc hb.size _, by simp, by simp⟩
  exact (Sl.owns hown hl).same (fun k _ hk => Below.heap_alloc _ _ _ hk)

theorem left_any (lo hi : Nat) (w : World) (B at_ : Nat) (v : Value) (l : List UInt8) (h : Rd w B v at_ l lo hi) :
    Calls Tryz.prog 105 #[.pointer (some ⟨B, 0, none⟩)] w fun e w' => e = .returned (.int .i64 (8 * (l.length : Int) - (at_ : Int))) ∧ ∃ n, w' = w.drewN n := by
  obtain ⟨hB, ⟨ao, cap, rfl, hs⟩, hap, hle⟩ := h
  obtain ⟨c0, c1, _⟩ := two_cells hB
  have hl := hs.len
  clear hB hs hap
  go_enter Tryz.func105, Tryz.ntmps105
  go_wp2
  go_quiet (fail)
  go_wp2
  go_ret
  exact ⟨rfl, _, rfl⟩

theorem bit_at (y : UInt8) (j : Nat) : bits .and .u8 (W8 y / 2 ^ (7 - j)) 1 = ((y.toBitVec.getLsbD (7 - j)).toNat : Int) := by
  have e : (W8 y / 2 ^ (7 - j) : Int) = ((y.toNat / 2 ^ (7 - j) : Nat) : Int) := by unfold W8; rw [Int.natCast_ediv, Int.natCast_pow]; rfl
  have h1 : y.toNat / 2 ^ (7 - j) < 2 ^ 8 := Nat.lt_of_le_of_lt (Nat.div_le_self _ _) y.toNat_lt
  rw [e]
  show IntKind.u8.wrap ((BitVec.ofInt 8 ((y.toNat / 2 ^ (7 - j) : Nat) : Int) &&& BitVec.ofInt 8 (1 : Int)).toNat : Int) = _
  have e3 : (BitVec.ofInt 8 (1 : Int)).toNat = 1 := by decide
  rw [BitVec.ofInt_natCast, BitVec.toNat_and, BitVec.toNat_ofNat, Nat.mod_eq_of_lt h1, e3, Nat.and_one_is_mod]
  have h2 : y.toBitVec.getLsbD (7 - j) = decide (y.toNat / 2 ^ (7 - j) % 2 = 1) := by
    show y.toNat.testBit (7 - j) = _
    rw [Nat.testBit_eq_decide_div_mod_eq]
  rw [h2, IntWalk.u8_in]
  · have := Nat.mod_lt (y.toNat / 2 ^ (7 - j)) (show 0 < 2 by omega)
    by_cases h : y.toNat / 2 ^ (7 - j) % 2 = 1
    · simp [h]
    · have : y.toNat / 2 ^ (7 - j) % 2 = 0 := by omega
      simp [this]
  · have := Nat.mod_lt (y.toNat / 2 ^ (7 - j)) (show 0 < 2 by omega); omega

theorem or_bit (V : Nat) (b : Bool) (h : V < 9223372036854775808) : bits .or .u64 ((V : Int) * 2) ((b.toNat : Nat) : Int) = ((2 * V + b.toNat : Nat) : Int) := by
  show IntKind.u64.wrap ((BitVec.ofInt 64 ((V : Int) * 2) ||| BitVec.ofInt 64 ((b.toNat : Nat) : Int)).toNat : Int) = _
  have hb : b.toNat < 2 ^ 1 := by cases b <;> decide
  rw [show ((V : Int) * 2) = ((2 ^ 1 * V : Nat) : Int) from by omega, BitVec.ofInt_natCast, BitVec.ofInt_natCast, BitVec.toNat_or, BitVec.toNat_ofNat, BitVec.toNat_ofNat,
    Nat.mod_eq_of_lt (by omega), Nat.mod_eq_of_lt (by omega), ← Nat.two_pow_add_eq_or_of_lt hb, IntWalk.u64_in _ (by omega)]

set_option maxRecDepth 100000 in
theorem rbits_any (lo hi : Nat) (w : World) (B at_ n : Nat) (v : Value) (l : List UInt8) (h : Rd w B v at_ l lo hi) (hn : n ≤ 64) (hle : at_ + n ≤ 8 * l.length) :
    Calls Tryz.prog 103 #[.pointer (some ⟨B, 0, none⟩), .int .i64 n] w fun e w' => e = .returned (.tuple #[.int .u64 ((Bt.val (((Bt.unpack l).drop at_).take n) : Nat) : Int), .int .u16 0]) ∧
      Rd w' B v (at_ + n) l lo hi ∧ Gro B none w w' := by
  have HH := Lib.hid h
  have hl := h.data.len
  have hle0 := h.le
  clear h
  go_enter Tryz.func103, Tryz.ntmps103
  go_wp2_with (go_at_call 105; refine (left_any lo hi _ B at_ v l HH.out).mono ?_; rintro e w1 ⟨rfl, m, rfl⟩)
  go_loopw [4, 19] (fun x i wr => ∃ (k V : Nat), k ≤ n ∧ i = .int .i64 k ∧ x = .int .u64 V ∧ V = Bt.val (((Bt.unpack l).drop at_).take k) ∧ Rd wr B v (at_ + k) l lo hi ∧ Gro B none w wr) (fun _ i _ => n - (intOf i).toNat)
  case atStart => exact ⟨0, 0, by omega, rfl, rfl, by simp [Bt.val], ⟨HH.out.cells, HH.out.data.same (fun _ _ _ => rfl), HH.out.apart, by omega⟩, ⟨rfl, rfl, rfl, Nat.le_refl _, fun _ _ _ _ => rfl⟩⟩
  case round =>
    obtain ⟨k, V, hk, rfl, rfl, hV, hrd, hgr⟩ := hrel
    have HV := Lib.hid hV
    have HG := Lib.hid hgr
    clear hV hgr
    by_cases hlt : k < n
    · obtain ⟨hB, ⟨ao, cap, rfl, hs⟩, hap, hle3⟩ := hrd
      obtain ⟨c0, c1, cz⟩ := two_cells hB
      obtain ⟨b, off, rfl, hlo, hbh, hcell⟩ := hs.cells (by intro e; subst e; simp at hle; omega)
      have hi8 : (at_ + k) / 8 < l.length := by omega
      have hc : wr.cell? ⟨b, off + (at_ + k) / 8, none⟩ = some (.int .u8 (W8 l[(at_ + k) / 8])) := hcell _ hi8
      have hy := bit_at l[(at_ + k) / 8] ((at_ + k) % 8)
      have hVb : V < 9223372036854775808 := by
        have h1 := Bt.val_lt (((Bt.unpack l).drop at_).take k)
        have h2 : (((Bt.unpack l).drop at_).take k).length ≤ k := List.length_take_le _ _
        have h3 : 2 ^ (((Bt.unpack l).drop at_).take k).length ≤ 2 ^ 63 := Nat.pow_le_pow_right (by omega) (by omega)
        rw [HV.out]; omega
      have ho := or_bit V (l[(at_ + k) / 8].toBitVec.getLsbD (7 - (at_ + k) % 8)) hVb
      have H8 := W8_lt l[(at_ + k) / 8]
      have HB := Lib.hid hB
      have HS := Lib.hid hs
      have i1 : (0 : Int) ≤ ((at_ + k : Nat) : Int) / 8 ∧ ((at_ + k : Nat) : Int) / 8 < (l.length : Int) := by omega
      clear hcell hB hs
      have hbit : (((Bt.unpack l).drop at_).take (k + 1)) = (((Bt.unpack l).drop at_).take k) ++ [l[(at_ + k) / 8].toBitVec.getLsbD (7 - (at_ + k) % 8)] := by
        have hlt3 : k < ((Bt.unpack l).drop at_).length := by rw [List.length_drop, Bt.unpack_len]; omega
        rw [List.take_succ_eq_append_getElem hlt3]
        congr 2
        have h1 := Bt.unpack_get l (at_ + k) (by omega)
        have h2 : ((Bt.unpack l).drop at_)[k]? = some (Bt.mbit l (at_ + k)) := by rw [List.getElem?_drop]; exact h1
        rw [List.getElem?_eq_getElem hlt3] at h2
        injection h2 with h2
        rw [h2]
        unfold Bt.mbit
        simp [List.getD, hi8]
      have HBIT := Lib.hid hbit
      have hbt : (l[(at_ + k) / 8].toBitVec.getLsbD (7 - (at_ + k) % 8)).toNat < 2 := by cases l[(at_ + k) / 8].toBitVec.getLsbD (7 - (at_ + k) % 8) <;> decide
      clear hbit
      generalize l[(at_ + k) / 8] = y at *
      generalize y.toBitVec.getLsbD (7 - (at_ + k) % 8) = bb at *
      go_wp2
      go_quiet (fail)
      go_wp2
      go_roundw
      case rel =>
        refine ⟨k + 1, 2 * V + bb.toNat, by omega, by go_num, ?_, ?_, ⟨?_, ?_, hap, by omega⟩, ?_⟩
        · go_num
        · rw [HBIT.out, Bt.val_snoc, ← HV.out]
        · rw [heap_setCell_same _ _ _ _ _ _ (by exact HB.out)]
          rw [show ((at_ : Int) + (k : Int) + 1) = ((at_ + (k + 1) : Nat) : Int) from by omega]; rfl
        · exact ⟨_, _, rfl, HS.out.same (fun j h1 h2 => heap_setCell_other _ _ _ _ (by intro e; simp at e; omega))⟩
        · have hg := HG.out
          refine ⟨hg.os, hg.tape, hg.output, by simpa using hg.size, fun j h1 h2 h3 => ?_⟩
          rw [heap_setCell_other _ _ _ _ h2]; exact hg.block j h1 h2 h3
      case measure => simp [intOf]; omega
    · have e : k = n := by omega
      subst e
      obtain rfl := HV.out
      have HR := Lib.hid hrd
      clear hrd HV
      go_wp2
      go_ret2
      exact ⟨rfl, HR.out, HG.out⟩

theorem rbits_short (lo hi : Nat) (w : World) (B at_ n : Nat) (v : Value) (l : List UInt8) (h : Rd w B v at_ l lo hi) (hn : n ≤ 64) (hle : 8 * l.length < at_ + n) :
    Calls Tryz.prog 103 #[.pointer (some ⟨B, 0, none⟩), .int .i64 n] w fun e w' => e = .returned (.tuple #[.int .u64 0, .int .u16 20]) ∧ ∃ m, w' = w.drewN m := by
  have hl := h.data.len
  have HH := Lib.hid h
  have hle0 := h.le
  clear h
  go_enter Tryz.func103, Tryz.ntmps103
  go_wp2_with (go_at_call 105; refine (left_any lo hi _ B at_ v l HH.out).mono ?_; rintro e w1 ⟨rfl, m, rfl⟩)
  go_ret2
  exact ⟨rfl, m, rfl⟩

theorem rbits_bad (w : World) (B : Nat) (n : Int) (hn : n < 0 ∨ 64 < n) :
    Calls Tryz.prog 103 #[.pointer (some ⟨B, 0, none⟩), .int .i64 n] w fun e w' => e = .returned (.tuple #[.int .u64 0, .int .u16 1]) ∧ w = w' := by
  rcases hn with hn | hn
  all_goals
    go_enter Tryz.func103, Tryz.ntmps103
    go_wp2
    go_ret2
    exact ⟨rfl, rfl⟩
end Go.Proofs.YtepjpdhmjchakaaGreatDoor

/- Numbers in groups of seven, read: plain Lean. -/
namespace Go.Proofs.YtepjpdhmjchakaaGreatDoor.Bt

/-- From the bit at_ on, group i on: an error's number, or the number and where it ends. -/
def rvg (U : List Bool) : Nat → Nat → Nat → Nat → Nat ⊕ (Nat × Nat)
  | 0, _, _, _ => .inl 21
  | f + 1, i, at_, acc =>
    if U.length < at_ + 8 then .inl 20
    else if i = 9 ∧ 1 < val ((U.drop at_).take 8) then .inl 21
    else if val ((U.drop at_).take 8) < 128 then (if 0 < i ∧ val ((U.drop at_).take 8) = 0 then .inl 21 else .inr (acc + val ((U.drop at_).take 8) % 128 * 128 ^ i, at_ + 8))
    else rvg U f (i + 1) (at_ + 8) (acc + val ((U.drop at_).take 8) % 128 * 128 ^ i)
def rv (U : List Bool) (at_ : Nat) : Nat ⊕ (Nat × Nat) := rvg U 10 0 at_ 0
end Go.Proofs.YtepjpdhmjchakaaGreatDoor.Bt
