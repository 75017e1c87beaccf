import Derived.Test.YtepjpdhmjchakaaGreatDoorP5
/- The document's bits: how they are put. -/
namespace Go.Proofs.YtepjpdhmjchakaaGreatDoor
open Go.RowKit

/-- A bit as a byte. -/
def fb (b : Bool) : Value := .int .u8 (if b then 1 else 0)
/-- The document's writer at block B: the bits L, its row r. -/
structure Xr (w : World) (B : Nat) (r : Option Nat) (L : List Bool) : Prop where
  ex : ∃ v, w.heap[B]? = some (.cells #[v, .int .i64 0] 141 (0, 0)) ∧ w.ownsRow 0 5 1 v L.length (L.map fb) ∧ v.ownBlock = r
  ne : r ≠ some B

theorem new_xr (w : World) : Xr (w.alloc (.cells #[.slice none 0 0, .int .i64 0] 141)) w.heap.size none [] :=
  ⟨⟨_, heap_alloc_new w _, World.ownsRow_nil _ _ _ _, rfl⟩, by simp⟩

set_option maxRecDepth 100000 in
theorem xbit_any (w : World) (B : Nat) (r : Option Nat) (L : List Bool) (b : Bool) (h : Xr w B r L) (hL : L.length < 1099511627776) :
    Calls Tryz.prog 77 #[.pointer (some ⟨B, 0, none⟩), .bool b] w fun e w' => e = .returned (.tuple #[]) ∧ ∃ r', Xr w' B r' (L ++ [b]) ∧ Gro B r w w' ∧ Anew w r r' := by
  obtain ⟨⟨v, hB, hown, hr⟩, hne⟩ := h
  obtain ⟨i0, hi0, hz0, hz1, hz2⟩ := info_parts info5
  obtain ⟨c0, c1, fz⟩ := two_cells hB
  have hBl := block_lt_of_cell c0
  have HB := Lib.hid hB
  have HO := Lib.hid hown
  clear hB hown
  go_enter Tryz.func77, Tryz.ntmps77
  cases b
  · go_wp2_with (at_builtin; refine wpList_append_lies _ rfl (.tmp 10) (.tmp 12) 24 rfl 0 5 i0 (.int .u8 0) 1 1 Tryz.underlying24 hi0 hz0 hz1 hz2 rfl (by decide) v L.length _ rfl (HO.out.alloc _) ⟨w.heap.size, 0, none⟩ 1 1 [.int .u8 0] rfl rfl (news_alloc w [.int .u8 0] 5) (by simp [Value.oneCell']) (by omega) (by unfold maxLen; omega) (by omega) (Nat.zero_le _) _ rfl ?_; intro g cap w1 hown1 hgrow1 hg hgl; have hB1 := grow_two HB.out hgrow1 hr hne; obtain ⟨d0, d1, dz⟩ := two_cells hB1; have HG := Lib.hid hg; have HB1 := Lib.hid hB1; clear hg hB1)
    go_end0
    have hgB : g ≠ B := by
      intro e; subst e
      rcases HG.out with e | e
      · exact hne (hr.symm.trans e)
      · simp at e; omega
    refine ⟨rfl, some g, ⟨⟨_, heap_setCell_same _ _ _ _ _ _ HB1.out, ?_, rfl⟩, by simpa using hgB⟩, ?_, ?_⟩
    · rw [List.length_append, List.map_append]
      exact own_of_same hown1 (fun k hk => heap_setCell_other _ _ _ _ (by injection hk with hk; exact fun e => hgB (hk.trans e)))
    · refine ⟨hgrow1.os, hgrow1.tape, hgrow1.output, ?_, fun k hk h1 h2 => ?_⟩
      · have := hgrow1.size; simp at this ⊢; omega
      · rw [heap_setCell_other _ _ _ _ h1, hgrow1.block k (by simp; omega) (by rw [hr]; exact h2), Below.heap_alloc _ _ _ hk]
    · intro k hk
      injection hk with hk; subst hk
      rcases HG.out with e | e
      · exact .inl (hr.symm.trans e)
      · right; simp at e; omega
  · go_wp2_with (at_builtin; refine wpList_append_lies _ rfl (.tmp 10) (.tmp 12) 24 rfl 0 5 i0 (.int .u8 0) 1 1 Tryz.underlying24 hi0 hz0 hz1 hz2 rfl (by decide) v L.length _ rfl (HO.out.alloc _) ⟨w.heap.size, 0, none⟩ 1 1 [.int .u8 1] rfl rfl (news_alloc w [.int .u8 1] 5) (by simp [Value.oneCell']) (by omega) (by unfold maxLen; omega) (by omega) (Nat.zero_le _) _ rfl ?_; intro g cap w1 hown1 hgrow1 hg hgl; have hB1 := grow_two HB.out hgrow1 hr hne; obtain ⟨d0, d1, dz⟩ := two_cells hB1; have HG := Lib.hid hg; have HB1 := Lib.hid hB1; clear hg hB1)
    go_end0
    have hgB : g ≠ B := by
      intro e; subst e
      rcases HG.out with e | e
      · exact hne (hr.symm.trans e)
      · simp at e; omega
    refine ⟨rfl, some g, ⟨⟨_, heap_setCell_same _ _ _ _ _ _ HB1.out, ?_, rfl⟩, by simpa using hgB⟩, ?_, ?_⟩
    · rw [List.length_append, List.map_append]
      exact own_of_same hown1 (fun k hk => heap_setCell_other _ _ _ _ (by injection hk with hk; exact fun e => hgB (hk.trans e)))
    · refine ⟨hgrow1.os, hgrow1.tape, hgrow1.output, ?_, fun k hk h1 h2 => ?_⟩
      · have := hgrow1.size; simp at this ⊢; omega
      · rw [heap_setCell_other _ _ _ _ h1, hgrow1.block k (by simp; omega) (by rw [hr]; exact h2), Below.heap_alloc _ _ _ hk]
    · intro k hk
      injection hk with hk; subst hk
      rcases HG.out with e | e
      · exact .inl (hr.symm.trans e)
      · right; simp at e; omega

theorem bit_eq64 (v j : Nat) (hv : v < 18446744073709551616) : (bits .and .u64 ((v : Int) / 2 ^ j) 1 == 1) = v.testBit j := by
  have h := bit_of64 v j hv
  have e : ((v : Int) / 2 ^ j) = ((v / 2 ^ j : Nat) : Int) := by rw [Int.natCast_ediv, Int.natCast_pow]; rfl
  have h1 : v / 2 ^ j < 2 ^ 64 := Nat.lt_of_le_of_lt (Nat.div_le_self _ _) (by omega)
  have e2 : bits .and .u64 ((v / 2 ^ j : Nat) : Int) 1 = ((v / 2 ^ j % 2 : Nat) : Int) := by
    show IntKind.u64.wrap ((BitVec.ofInt 64 ((v / 2 ^ j : Nat) : Int) &&& BitVec.ofInt 64 (1 : Int)).toNat : Int) = _
    rw [BitVec.ofInt_natCast, BitVec.toNat_and, BitVec.toNat_ofNat, Nat.mod_eq_of_lt h1]
    have e3 : (BitVec.ofInt 64 (1 : Int)).toNat = 1 := by decide
    rw [e3, Nat.and_one_is_mod, IntWalk.u64_in]
    have := Nat.mod_lt (v / 2 ^ j) (show 0 < 2 by omega)
    omega
  rw [← h, e, e2]
  have := Nat.mod_lt (v / 2 ^ j) (show 0 < 2 by omega)
  by_cases h : v / 2 ^ j % 2 = 1
  · rw [h]; rfl
  · have h0 : v / 2 ^ j % 2 = 0 := by omega
    rw [h0]; rfl

set_option maxRecDepth 100000 in
theorem xbits_any (w : World) (B : Nat) (r : Option Nat) (L : List Bool) (v n : Nat) (h : Xr w B r L) (hL : L.length + n < 1099511627776) (hv : v < 18446744073709551616) (hn : n ≤ 64) :
    Calls Tryz.prog 75 #[.pointer (some ⟨B, 0, none⟩), .int .u64 v, .int .i64 n] w fun e w' => e = .returned (.int .u16 0) ∧ ∃ r', Xr w' B r' (L ++ Bt.nb v n) ∧ Gro B r w w' ∧ Anew w r r' := by
  go_enter Tryz.func75, Tryz.ntmps75
  go_wp2
  go_loopw [7] (fun i wr => ∃ (k : Nat) (r' : Option Nat), k ≤ n ∧ i = .int .i64 ((n : Int) - 1 - k) ∧ Xr wr B r' (L ++ (Bt.nb v n).take k) ∧ Gro B r w wr ∧ Anew w r r') (fun i _ => (intOf i + 1).toNat)
  case atStart => exact ⟨0, r, by omega, by simp, by simpa using h, Gro.refl _ _ _, Anew.refl _ _⟩
  case round =>
    obtain ⟨k, r', hk, rfl, hwr, hgr, han⟩ := hrel
    by_cases hlt : k < n
    · have hb := bit_eq64 v (n - 1 - k) hv
      have HW := Lib.hid hwr
      clear hwr h
      have hi : (0 : Int) ≤ (n : Int) - 1 - k := by omega
      have hlen : (L ++ (Bt.nb v n).take k).length < 1099511627776 := by
        rw [List.length_append, List.length_take, Bt.nb_len]; omega
      have ht : ((n : Int) - 1 - k).toNat = n - 1 - k := by omega
      go_wp2_with (go_at_call 77; refine (xbit_any _ B r' _ _ HW.out hlen).mono ?_; rintro e w1 ⟨rfl, r1, hw1, hg1, ha1⟩)
      go_roundw
      case rel =>
        refine ⟨k + 1, r1, by omega, ?_, ?_, hgr.trans hg1 han, han.trans ha1 hgr.size⟩
        · rw [show ((n : Int) - 1 - k - 1) = (n : Int) - 1 - ((k + 1 : Nat) : Int) from by omega]
        · rw [nb_take v n k hlt, ← List.append_assoc]; exact hw1
      case measure => simp [intOf]; omega
    · have e : k = n := by omega
      subst e
      have ht : (Bt.nb v k).take k = Bt.nb v k := List.take_of_length_le (by rw [Bt.nb_len]; exact Nat.le_refl _)
      rw [ht] at hwr
      have HW := Lib.hid hwr
      clear hwr h ht
      go_wp2
      go_ret
      exact ⟨rfl, r', HW.out, hgr, han⟩

theorem xbits_bad (w : World) (B : Nat) (v : Nat) (n : Int) (hn : n < 0 ∨ 64 < n) :
    Calls Tryz.prog 75 #[.pointer (some ⟨B, 0, none⟩), .int .u64 v, .int .i64 n] w fun e w' => e = .returned (.int .u16 1) ∧ w = w' := by
  rcases hn with hn | hn
  all_goals
    go_enter Tryz.func75, Tryz.ntmps75
    go_wp2
    go_ret
    exact ⟨rfl, rfl⟩

theorem xbits_group (w : World) (B : Nat) (r : Option Nat) (L : List Bool) (u : Nat) (h : Xr w B r L) (hL : L.length + 8 < 1099511627776) :
    Calls Tryz.prog 75 #[.pointer (some ⟨B, 0, none⟩), .int .u64 (128 + (u : Int) % 128), .int .i64 8] w fun e w' => e = .returned (.int .u16 0) ∧ ∃ r', Xr w' B r' (L ++ Bt.nb (u % 128 + 128) 8) ∧ Gro B r w w' ∧ Anew w r r' := by
  rw [show (128 + (u : Int) % 128) = ((u % 128 + 128 : Nat) : Int) from by omega]
  exact xbits_any w B r L (u % 128 + 128) 8 h hL (by omega) (by omega)

set_option maxRecDepth 100000 in
theorem xvarint_any (w : World) (B : Nat) (r : Option Nat) (L : List Bool) (v : Nat) (h : Xr w B r L) (hL : L.length < 1099511627000) (hv : v < 18446744073709551616) :
    Calls Tryz.prog 100 #[.pointer (some ⟨B, 0, none⟩), .int .u64 v] w fun e w' => e = .returned (.tuple #[]) ∧ ∃ r', Xr w' B r' (L ++ Bt.vb v) ∧ Gro B r w w' ∧ Anew w r r' := by
  go_enter Tryz.func100, Tryz.ntmps100
  go_wp2_with fail
  go_loopw [1] (fun i wr => ∃ (k u : Nat) (L' : List Bool) (r' : Option Nat), i = .int .u64 u ∧ u < 128 ^ (k + 1) ∧ k ≤ 10 ∧ L'.length + 8 * k ≤ L.length + 80 ∧ u < 18446744073709551616 ∧ L' ++ Bt.vbf k u = L ++ Bt.vb v ∧ Xr wr B r' L' ∧ Gro B r w wr ∧ Anew w r r') (fun i _ => (intOf i).toNat)
  case atStart => exact ⟨10, v, L, r, rfl, by omega, by omega, by omega, hv, rfl, h, Gro.refl _ _ _, Anew.refl _ _⟩
  case round =>
    obtain ⟨k, u, L', r', rfl, hu, hk, hl, hu2, hL', hwr, hgr, han⟩ := hrel
    have HW := Lib.hid hwr
    have HL := Lib.hid hL'
    have HU := Lib.hid hu
    clear hwr h hL' hu
    by_cases hlt : 127 < u
    · have HC := Lib.hid (xbits_group wr B r' L' u HW.out (by omega))
      go_wp2_with (go_at_call 75; refine Calls.mono HC.out ?_; rintro e w1 ⟨rfl, r1, hw1, hg1, ha1⟩)
      go_roundw
      case rel =>
        cases k with
        | zero => have := HU.out; simp at this; omega
        | succ k =>
          refine ⟨k, u / 128, L' ++ Bt.nb (u % 128 + 128) 8, r1, by go_num, ?_, by omega, by rw [List.length_append, Bt.nb_len]; omega, by omega, ?_, hw1, hgr.trans hg1 han, han.trans ha1 hgr.size⟩
          · have := HU.out; rw [Nat.pow_succ] at this; exact Nat.div_lt_of_lt_mul (by rw [Nat.mul_comm]; exact this)
          · rw [← HL.out, Bt.vbf, if_pos hlt, List.append_assoc]
      case measure => simp [intOf]; omega
    · have hv8 : Bt.vbf k u = Bt.nb u 8 := by
        cases k with
        | zero => rfl
        | succ k => rw [Bt.vbf, if_neg hlt]
      go_wp2_with (go_at_call 75; refine (xbits_any _ B r' L' u 8 HW.out (by omega) hu2 (by omega)).mono ?_; rintro e w1 ⟨rfl, r1, hw1, hg1, ha1⟩)
      go_end0
      refine ⟨rfl, r1, ?_, hgr.trans hg1 han, han.trans ha1 hgr.size⟩
      rw [← HL.out, hv8]; exact hw1

theorem xvarint_zz (w : World) (B : Nat) (r : Option Nat) (L : List Bool) (x z : Int) (h : Xr w B r L) (hL : L.length < 1099511627000) (h1 : -9223372036854775808 ≤ x) (h2 : x ≤ 9223372036854775807) (hz : z = (zz x : Int)) :
    Calls Tryz.prog 100 #[.pointer (some ⟨B, 0, none⟩), .int .u64 z] w fun e w' => e = .returned (.tuple #[]) ∧ ∃ r', Xr w' B r' (L ++ Bt.vb (zz x)) ∧ Gro B r w w' ∧ Anew w r r' := by
  rw [hz]
  exact xvarint_any w B r L (zz x) h hL (zz_lt x h1 h2)

set_option maxRecDepth 100000 in
theorem xsigned_any (w : World) (B : Nat) (r : Option Nat) (L : List Bool) (x : Int) (h : Xr w B r L) (hL : L.length < 1099511627000) (h1 : -9223372036854775808 ≤ x) (h2 : x ≤ 9223372036854775807) :
    Calls Tryz.prog 74 #[.pointer (some ⟨B, 0, none⟩), .int .i64 x] w fun e w' => e = .returned (.tuple #[]) ∧ ∃ r', Xr w' B r' (L ++ Bt.vb (zz x)) ∧ Gro B r w w' ∧ Anew w r r' := by
  by_cases hx : 0 ≤ x
  · go_enter Tryz.func74, Tryz.ntmps74
    have HC := Lib.hid fun z hz => xvarint_zz w B r L x z h hL h1 h2 hz
    go_wp2_with (go_at_call 100; refine Calls.mono (HC.out _ (by unfold zz; rw [if_pos hx]; omega)) ?_; rintro e w1 ⟨rfl, r1, hw1, hg1, ha1⟩)
    (try simp only [Exit.inBlock, Exit.then]); refine bodyPost_ret (results_none rfl _ _ _) rfl ?_
    exact ⟨rfl, r1, hw1, hg1, ha1⟩
  · go_enter Tryz.func74, Tryz.ntmps74
    have HC := Lib.hid fun z hz => xvarint_zz w B r L x z h hL h1 h2 hz
    go_wp2_with (go_at_call 100; refine Calls.mono (HC.out _ (by unfold zz; rw [if_neg hx]; omega)) ?_; rintro e w1 ⟨rfl, r1, hw1, hg1, ha1⟩)
    go_end0
    exact ⟨rfl, r1, hw1, hg1, ha1⟩
end Go.Proofs.YtepjpdhmjchakaaGreatDoor

/- ends: how many noughts a number begins and ends with, by the document's loops. -/
namespace Go.Proofs.YtepjpdhmjchakaaGreatDoor
open Go.RowKit
set_option linter.unusedVariables false

namespace Gz

theorem lz_bit (x j : Nat) (h0 : x ≠ 0) (h : x < 18446744073709551616) (hj : j < lz x) : x.testBit (63 - j) = false := by
  have h1 := lz_lt x h0 h
  have h2 := lz_le x
  exact Nat.testBit_lt_two_pow (Nat.lt_of_lt_of_le h1 (Nat.pow_le_pow_right (by decide) (by omega)))
theorem lz_end (x : Nat) (h0 : x ≠ 0) (h : x < 18446744073709551616) (hj : lz x < 31) : x.testBit (63 - lz x) = true := by
  have e : 63 - lz x = Nat.log2 x := by
    have : Nat.log2 x < 64 := (Nat.log2_lt h0).2 h
    unfold lz at hj ⊢
    omega
  rw [e]
  have h1 := Nat.log2_self_le h0
  have h2 : x < 2 ^ (Nat.log2 x + 1) := Nat.lt_log2_self
  rw [Nat.testBit_eq_decide_div_mod_eq, show x / 2 ^ x.log2 = 1 from Nat.div_eq_of_lt_le (by omega) (by rw [Nat.pow_succ] at h2; omega)]
  rfl
theorem tz_bit (x j : Nat) (h0 : x ≠ 0) (h : x < 18446744073709551616) (hj : j < tz x) : x.testBit j = false := by
  obtain ⟨m, hm, _⟩ := tz_spec x h0 h
  rw [hm, Nat.testBit_two_pow_mul]
  simp
  omega
theorem tz_end (x : Nat) (h0 : x ≠ 0) (h : x < 18446744073709551616) : x.testBit (tz x) = true := by
  obtain ⟨m, hm, _⟩ := tz_spec x h0 h
  have : ∀ t, (2 ^ t * (2 * m + 1)).testBit t = true := fun t => by
    rw [Nat.testBit_two_pow_mul]
    simp
  have h2 := this (tz x)
  rwa [← hm] at h2
/-- The step that an appender has. -/
theorem all_step {l : List Smp} {a b : Smp} : (Ap.all ((l ++ [a]) ++ [b])).step = (b.t - a.t).toNat := by
  rw [Ap.all_snoc, Ap.all_snoc]
  have h : ((Ap.all l).add a).n ≠ 0 := by unfold Ap.add; split <;> simp
  have ht : ((Ap.all l).add a).t = a.t := by unfold Ap.add; split <;> rfl
  generalize (Ap.all l).add a = c at *
  unfold Ap.add
  rw [if_neg h]
  simp [ht]
end Gz

theorem bit0_eq64 (v j : Nat) (hv : v < 18446744073709551616) : (bits .and .u64 ((v : Int) / 2 ^ j) 1 == 0) = !v.testBit j := by
  have h := bit_eq64 v j hv
  have e : ((v : Int) / 2 ^ j) = ((v / 2 ^ j : Nat) : Int) := by rw [Int.natCast_ediv, Int.natCast_pow]; rfl
  have h1 : v / 2 ^ j < 18446744073709551616 := Nat.lt_of_le_of_lt (Nat.div_le_self _ _) hv
  have e2 : bits .and .u64 ((v / 2 ^ j : Nat) : Int) 1 = (((v / 2 ^ j) &&& 1 : Nat) : Int) := bits_and_u64_nat _ 1 h1 (by omega)
  rw [e, e2, Nat.and_one_is_mod] at h ⊢
  rw [← h]
  have := Nat.mod_lt (v / 2 ^ j) (show 0 < 2 by omega)
  rcases (by omega : v / 2 ^ j % 2 = 0 ∨ v / 2 ^ j % 2 = 1) with h3 | h3 <;> rw [h3] <;> rfl

set_option maxRecDepth 100000 in
theorem xends_any (w : World) (x : Nat) (h0 : x ≠ 0) (hx : x < 18446744073709551616) :
    Calls Tryz.prog 78 #[.int .u64 (x : Int)] w fun e w' => e = .returned (.tuple #[.int .i64 (Gz.lz x : Int), .int .i64 (Gz.tz x : Int)]) ∧ w = w' := by
  have hl := Gz.lz_le x
  have hs := Gz.both_le x h0 hx
  go_enter Tryz.func78, Tryz.ntmps78
  go_wp2
  go_loopw [4] (fun l wr => ∃ k : Nat, k ≤ Gz.lz x ∧ l = .int .i64 k ∧ w = wr) (fun l _ => 31 - (intOf l).toNat)
  case atStart => exact ⟨0, Nat.zero_le _, rfl, rfl⟩
  case round =>
    obtain ⟨k, hk, rfl, hw⟩ := hrel
    subst hw
    by_cases h31 : k < 31
    · have e1 : IntKind.u64.wrap ((63 : Int) - k) = ((63 - k : Nat) : Int) := by rw [IntKind.wrap_u64]; omega
      have hbk := bit0_eq64 x (63 - k) hx
      by_cases hlt : k < Gz.lz x
      · rw [Gz.lz_bit x k h0 hx hlt] at hbk
        have hbk : (bits .and .u64 ((x : Int) / 2 ^ (63 - k)) 1 == 0) = true := hbk
        go_wp2
        exact ⟨⟨k + 1, by omega, by push_cast; rfl, trivial⟩, by simp [intOf]; omega⟩
      · obtain rfl : k = Gz.lz x := by omega
        rw [Gz.lz_end x h0 hx h31] at hbk
        have hbk : (bits .and .u64 ((x : Int) / 2 ^ (63 - Gz.lz x)) 1 == 0) = false := hbk
        go_wp2
        go_loopw [5] (fun e wr => ∃ j : Nat, j ≤ Gz.tz x ∧ e = .int .i64 j ∧ w = wr) (fun e _ => 64 - (intOf e).toNat)
        case atStart => exact ⟨0, Nat.zero_le _, rfl, rfl⟩
        case round =>
          obtain ⟨j, hj, rfl, hw⟩ := hrel
          subst hw
          by_cases hjt : j < Gz.tz x
          · have hbj := bit0_eq64 x j hx
            rw [Gz.tz_bit x j h0 hx hjt] at hbj
            have hbj : (bits .and .u64 ((x : Int) / 2 ^ j) 1 == 0) = true := hbj
            go_wp2
            exact ⟨⟨j + 1, by omega, by push_cast; rfl, trivial⟩, by simp [intOf]; omega⟩
          · obtain rfl : j = Gz.tz x := by omega
            have hbj := bit0_eq64 x (Gz.tz x) hx
            rw [Gz.tz_end x h0 hx] at hbj
            have hbj : (bits .and .u64 ((x : Int) / 2 ^ Gz.tz x) 1 == 0) = false := hbj
            go_wp2
            go_ret2
            exact ⟨rfl, rfl⟩
    · obtain rfl : k = Gz.lz x := by omega
      go_wp2
      go_loopw [5] (fun e wr => ∃ j : Nat, j ≤ Gz.tz x ∧ e = .int .i64 j ∧ w = wr) (fun e _ => 64 - (intOf e).toNat)
      case atStart => exact ⟨0, Nat.zero_le _, rfl, rfl⟩
      case round =>
        obtain ⟨j, hj, rfl, hw⟩ := hrel
        subst hw
        by_cases hjt : j < Gz.tz x
        · have hbj := bit0_eq64 x j hx
          rw [Gz.tz_bit x j h0 hx hjt] at hbj
          have hbj : (bits .and .u64 ((x : Int) / 2 ^ j) 1 == 0) = true := hbj
          go_wp2
          exact ⟨⟨j + 1, by omega, by push_cast; rfl, trivial⟩, by simp [intOf]; omega⟩
        · obtain rfl : j = Gz.tz x := by omega
          have hbj := bit0_eq64 x (Gz.tz x) hx
          rw [Gz.tz_end x h0 hx] at hbj
          have hbj : (bits .and .u64 ((x : Int) / 2 ^ Gz.tz x) 1 == 0) = false := hbj
          go_wp2
          go_ret2
          exact ⟨rfl, rfl⟩
end Go.Proofs.YtepjpdhmjchakaaGreatDoor
