/- The bit writer's Bits, Varint, Signed, Len, Bytes. -/
import Derived.Test.YtepjpdhmjchakaaDoorWriter
namespace Go.Proofs.YtepjpdhmjchakaaDoor
open Go.RowKit

theorem bit_of64 (v j : Nat) (hv : v < 18446744073709551616) : (bits .and .u64 ((v : Int) / 2 ^ j) 1 != 0) = v.testBit j := by
  have e : ((v : Int) / 2 ^ j) = ((v / 2 ^ j : Nat) : Int) := by rw [Int.natCast_ediv, Int.natCast_pow]; rfl
  have h1 : v / 2 ^ j < 2 ^ 64 := Nat.lt_of_le_of_lt (Nat.div_le_self _ _) (by omega)
  have e2 : bits .and .u64 ((v / 2 ^ j : Nat) : Int) 1 = ((v / 2 ^ j % 2 : Nat) : Int) := by
    show IntKind.u64.wrap ((BitVec.ofInt 64 ((v / 2 ^ j : Nat) : Int) &&& BitVec.ofInt 64 (1 : Int)).toNat : Int) = _
    rw [BitVec.ofInt_natCast, BitVec.toNat_and, BitVec.toNat_ofNat, Nat.mod_eq_of_lt h1]
    have e3 : (BitVec.ofInt 64 (1 : Int)).toNat = 1 := by decide
    rw [e3, Nat.and_one_is_mod, IntWalk.u64_in]
    have := Nat.mod_lt (v / 2 ^ j) (show 0 < 2 by omega)
    omega
  rw [e, e2, Nat.testBit_eq_decide_div_mod_eq]
  have := Nat.mod_lt (v / 2 ^ j) (show 0 < 2 by omega)
  by_cases h : v / 2 ^ j % 2 = 1
  · rw [h]; rfl
  · have h0 : v / 2 ^ j % 2 = 0 := by omega
    rw [h0]; rfl

theorem nb_take (v n k : Nat) (hk : k < n) : (Bt.nb v n).take (k + 1) = (Bt.nb v n).take k ++ [v.testBit (n - 1 - k)] := by
  rw [List.take_succ_eq_append_getElem (by rw [Bt.nb_len]; exact hk)]
  simp [Bt.nb]

set_option maxRecDepth 100000 in
theorem bits_any (w : World) (B : Nat) (r : Option Nat) (L : List Bool) (v n : Nat) (h : Wr w B r L) (hL : L.length + n < 1099511627776) (hv : v < 18446744073709551616) (hn : n ≤ 64) :
    Calls Tryd.prog 28 #[.pointer (some ⟨B, 0, none⟩), .int .u64 v, .int .i64 n] w fun e w' => e = .returned (.int .u16 0) ∧ ∃ r', Wr w' B r' (L ++ Bt.nb v n) ∧ Gro B r w w' ∧ Anew w r r' := by
  go_enter Tryd.func28, Tryd.ntmps28
  go_wp2
  go_loopw [7] (fun i wr => ∃ (k : Nat) (r' : Option Nat), k ≤ n ∧ i = .int .i64 ((n : Int) - 1 - k) ∧ Wr wr B r' (L ++ (Bt.nb v n).take k) ∧ Gro B r w wr ∧ Anew w r r') (fun i _ => (intOf i + 1).toNat)
  case atStart => exact ⟨0, r, by omega, by simp, by simpa using h, Gro.refl _ _ _, Anew.refl _ _⟩
  case round =>
    obtain ⟨k, r', hk, rfl, hwr, hgr, han⟩ := hrel
    by_cases hlt : k < n
    · have hb := bit_of64 v (n - 1 - k) hv
      have HW := Lib.hid hwr
      clear hwr h
      have hi : (0 : Int) ≤ (n : Int) - 1 - k := by omega
      have hlen : (L ++ (Bt.nb v n).take k).length < 1099511627776 := by
        rw [List.length_append, List.length_take, Bt.nb_len]; omega
      have ht : ((n : Int) - 1 - k).toNat = n - 1 - k := by omega
      go_wp2_with (go_at_call 77; refine (bit_any _ B r' _ _ HW.out hlen).mono ?_; rintro e w1 ⟨rfl, r1, hw1, hg1, ha1⟩)
      go_roundw
      case rel =>
        refine ⟨k + 1, r1, by omega, ?_, ?_, hgr.trans hg1 han, han.trans ha1 hgr.size⟩
        · rw [show ((n : Int) - 1 - k - 1) = (n : Int) - 1 - ((k + 1 : Nat) : Int) from by omega]
        · rw [nb_take v n k hlt, ← List.append_assoc]; exact hw1
      case measure => simp [intOf]; omega
    · have e : k = n := by omega
      subst e
      have ht : (Bt.nb v k).take k = Bt.nb v k := List.take_of_length_le (by rw [Bt.nb_len]; exact Nat.le_refl _)
      rw [ht] at hwr
      have HW := Lib.hid hwr
      clear hwr h ht
      go_wp2
      go_ret
      exact ⟨rfl, r', HW.out, hgr, han⟩

theorem bits_bad (w : World) (B : Nat) (v : Nat) (n : Int) (hn : n < 0 ∨ 64 < n) :
    Calls Tryd.prog 28 #[.pointer (some ⟨B, 0, none⟩), .int .u64 v, .int .i64 n] w fun e w' => e = .returned (.int .u16 1) ∧ w = w' := by
  rcases hn with hn | hn
  all_goals
    go_enter Tryd.func28, Tryd.ntmps28
    go_wp2
    go_ret
    exact ⟨rfl, rfl⟩

theorem or128 (v : Nat) : bits .or .u64 (bits .and .u64 (v : Int) 127) 128 = ((v % 128 + 128 : Nat) : Int) := by
  have e1 : bits .and .u64 (v : Int) 127 = ((v % 128 : Nat) : Int) := by
    show IntKind.u64.wrap ((BitVec.ofInt 64 (v : Int) &&& BitVec.ofInt 64 (127 : Int)).toNat : Int) = _
    have e3 : (BitVec.ofInt 64 (127 : Int)).toNat = 2 ^ 7 - 1 := by decide
    rw [BitVec.ofInt_natCast, BitVec.toNat_and, BitVec.toNat_ofNat, e3, Nat.and_two_pow_sub_one_eq_mod, Nat.mod_mod_of_dvd _ (by decide : 2 ^ 7 ∣ 2 ^ 64), IntWalk.u64_in]
    have := Nat.mod_lt v (show 0 < 2 ^ 7 by omega)
    omega
  rw [e1]
  have h7 : v % 128 < 2 ^ 7 := Nat.mod_lt _ (by omega)
  show IntKind.u64.wrap ((BitVec.ofInt 64 ((v % 128 : Nat) : Int) ||| BitVec.ofInt 64 (128 : Int)).toNat : Int) = _
  have e3 : (BitVec.ofInt 64 (128 : Int)).toNat = 2 ^ 7 * 1 := by decide
  rw [BitVec.ofInt_natCast, BitVec.toNat_or, BitVec.toNat_ofNat, e3, Nat.mod_eq_of_lt (by omega), Nat.or_comm, ← Nat.two_pow_add_eq_or_of_lt h7, IntWalk.u64_in]
  · omega
  · omega

theorem vb_len (k v : Nat) : (Bt.vbf k v).length ≤ 8 * (k + 1) := by
  induction k generalizing v with
  | zero => rw [Bt.vbf, Bt.nb_len]; omega
  | succ k ih => rw [Bt.vbf]; split
                 · rw [List.length_append, Bt.nb_len]; have := ih (v / 128); omega
                 · rw [Bt.nb_len]; omega

set_option maxRecDepth 100000 in
theorem varint_any (w : World) (B : Nat) (r : Option Nat) (L : List Bool) (v : Nat) (h : Wr w B r L) (hL : L.length < 1099511627000) (hv : v < 18446744073709551616) :
    Calls Tryd.prog 76 #[.pointer (some ⟨B, 0, none⟩), .int .u64 v] w fun e w' => e = .returned (.tuple #[]) ∧ ∃ r', Wr w' B r' (L ++ Bt.vb v) ∧ Gro B r w w' ∧ Anew w r r' := by
  go_enter Tryd.func76, Tryd.ntmps76
  go_wp2_with fail
  go_loopw [1] (fun i wr => ∃ (k u : Nat) (L' : List Bool) (r' : Option Nat), i = .int .u64 u ∧ u < 128 ^ (k + 1) ∧ k ≤ 10 ∧ L'.length + 8 * k ≤ L.length + 80 ∧ u < 18446744073709551616 ∧ L' ++ Bt.vbf k u = L ++ Bt.vb v ∧ Wr wr B r' L' ∧ Gro B r w wr ∧ Anew w r r') (fun i _ => (intOf i).toNat)
  case atStart => exact ⟨10, v, L, r, rfl, by omega, by omega, by omega, hv, rfl, h, Gro.refl _ _ _, Anew.refl _ _⟩
  case round =>
    obtain ⟨k, u, L', r', rfl, hu, hk, hl, hu2, hL', hwr, hgr, han⟩ := hrel
    have HW := Lib.hid hwr
    have HL := Lib.hid hL'
    have HU := Lib.hid hu
    clear hwr h hL' hu
    by_cases hlt : 127 < u
    · have ho := or128 u
      have hm : u % 128 + 128 < 18446744073709551616 := by omega
      go_wp2_with (go_at_call 28; refine (bits_any _ B r' L' (u % 128 + 128) 8 HW.out (by omega) hm (by omega)).mono ?_; rintro e w1 ⟨rfl, r1, hw1, hg1, ha1⟩)
      go_roundw
      case rel =>
        cases k with
        | zero => have := HU.out; simp at this; omega
        | succ k =>
          refine ⟨k, u / 128, L' ++ Bt.nb (u % 128 + 128) 8, r1, by go_num, ?_, by omega, by rw [List.length_append, Bt.nb_len]; omega, by omega, ?_, hw1, hgr.trans hg1 han, han.trans ha1 hgr.size⟩
          · have := HU.out; rw [Nat.pow_succ] at this; exact Nat.div_lt_of_lt_mul (by rw [Nat.mul_comm]; exact this)
          · rw [← HL.out, Bt.vbf, if_pos hlt, List.append_assoc]
      case measure => simp [intOf]; omega
    · have hv8 : Bt.vbf k u = Bt.nb u 8 := by
        cases k with
        | zero => rfl
        | succ k => rw [Bt.vbf, if_neg hlt]
      go_wp2_with (go_at_call 28; refine (bits_any _ B r' L' u 8 HW.out (by omega) hu2 (by omega)).mono ?_; rintro e w1 ⟨rfl, r1, hw1, hg1, ha1⟩)
      go_end0
      refine ⟨rfl, r1, ?_, hgr.trans hg1 han, han.trans ha1 hgr.size⟩
      rw [← HL.out, hv8]; exact hw1

/-- A number that may be below 0, as one that is not. -/
def zz (x : Int) : Nat := if 0 ≤ x then (2 * x).toNat else (-2 * x - 1).toNat

theorem zz_lt (x : Int) (h1 : -9223372036854775808 ≤ x) (h2 : x ≤ 9223372036854775807) : zz x < 18446744073709551616 := by unfold zz; split <;> omega
theorem zz_pos (x : Int) (h0 : 0 ≤ x) (h2 : x ≤ 9223372036854775807) : bits .xor .u64 (x * 2) (x / 9223372036854775808) = (zz x : Int) := by
  have e : x / 9223372036854775808 = 0 := by omega
  rw [e]
  show IntKind.u64.wrap ((BitVec.ofInt 64 (x * 2) ^^^ BitVec.ofInt 64 (0 : Int)).toNat : Int) = _
  have e3 : BitVec.ofInt 64 (0 : Int) = 0#64 := by decide
  obtain ⟨y, rfl⟩ := Int.eq_ofNat_of_zero_le h0
  have e4 : ((y : Int) * 2) = ((y * 2 : Nat) : Int) := by omega
  rw [e3, BitVec.xor_zero, e4, BitVec.ofInt_natCast, BitVec.toNat_ofNat, Nat.mod_eq_of_lt (by omega), IntWalk.u64_in _ (by omega)]
  unfold zz
  rw [if_pos h0]
  omega
theorem zz_neg (x : Int) (h0 : ¬ 0 ≤ x) (h1 : -9223372036854775808 ≤ x) :
    bits .xor .u64 (IntKind.u64.wrap (IntKind.u64.wrap x * 2)) (IntKind.u64.wrap (x / 9223372036854775808)) = (zz x : Int) := by
  have e : x / 9223372036854775808 = -1 := by omega
  have w64 : ∀ n : Int, IntKind.u64.wrap n = n % 18446744073709551616 := fun n => by simp [IntKind.wrap, IntKind.bits, IntKind.signed]
  rw [e, w64, w64, w64]
  show IntKind.u64.wrap ((BitVec.ofInt 64 (x % 18446744073709551616 * 2 % 18446744073709551616) ^^^ BitVec.ofInt 64 (-1 % 18446744073709551616 : Int)).toNat : Int) = _
  have e3 : BitVec.ofInt 64 (-1 % 18446744073709551616 : Int) = BitVec.allOnes 64 := by decide
  obtain ⟨y, hy⟩ := Int.eq_ofNat_of_zero_le (show 0 ≤ x % 18446744073709551616 * 2 % 18446744073709551616 by omega)
  rw [e3, hy, BitVec.xor_allOnes, BitVec.ofInt_natCast, BitVec.toNat_not, BitVec.toNat_ofNat, Nat.mod_eq_of_lt (by omega), IntWalk.u64_in _ (by omega)]
  unfold zz
  rw [if_neg h0]
  omega

set_option maxRecDepth 100000 in
theorem signed_any (w : World) (B : Nat) (r : Option Nat) (L : List Bool) (x : Int) (h : Wr w B r L) (hL : L.length < 1099511627000) (h1 : -9223372036854775808 ≤ x) (h2 : x ≤ 9223372036854775807) :
    Calls Tryd.prog 27 #[.pointer (some ⟨B, 0, none⟩), .int .i64 x] w fun e w' => e = .returned (.tuple #[]) ∧ ∃ r', Wr w' B r' (L ++ Bt.vb (zz x)) ∧ Gro B r w w' ∧ Anew w r r' := by
  by_cases hx : 0 ≤ x
  · go_enter Tryd.func27, Tryd.ntmps27
    have hz := zz_pos x hx h2
    have hl := zz_lt x h1 h2
    go_wp2_with (go_at_call 76; refine (varint_any _ B r L (zz x) h hL hl).mono ?_; rintro e w1 ⟨rfl, r1, hw1, hg1, ha1⟩)
    go_end0
    exact ⟨rfl, r1, hw1, hg1, ha1⟩
  · go_enter Tryd.func27, Tryd.ntmps27
    have hz := zz_neg x hx h1
    have hl := zz_lt x h1 h2
    go_wp2_with (go_at_call 76; refine (varint_any _ B r L (zz x) h hL hl).mono ?_; rintro e w1 ⟨rfl, r1, hw1, hg1, ha1⟩)
    go_end0
    exact ⟨rfl, r1, hw1, hg1, ha1⟩

set_option maxRecDepth 100000 in
theorem clone_any (lo hi : Nat) (w : World) (v : Value) (l : List UInt8) (hv : Sl lo hi f8 w v l) (hhi : hi ≤ w.heap.size) :
    Calls Tryd.prog 82 #[v] w fun e w' => ∃ v', e = .returned v' ∧ w'.ownsRow w.heap.size 5 1 v' l.length (l.map f8) ∧ Below w.heap.size w w' := by
  obtain ⟨ao, cap, rfl, hv⟩ := hv
  have hl := hv.len
  obtain ⟨i0, hi0, hz0, hz1, hz2⟩ := info_parts info5
  have hcmp := fun W : World => Lib.run_eql_slice_nil (P := Tryd.prog) W 71 5 ao l.length cap 0 0 Tryd.underlying71
  go_enter Tryd.func82, Tryd.ntmps82
  cases ao with
  | none =>
    obtain ⟨h0, rfl⟩ := hv.none rfl
    have hl0 : l = [] := List.eq_nil_of_length_eq_zero h0
    subst hl0
    simp only [List.length_nil, Option.isNone_none] at hcmp ⊢
    go_wp2
    go_ret
    exact ⟨_, rfl, World.ownsRow_nil _ _ _ _, Below.refl _ _⟩
  | some ad =>
    have hnew : (w.alloc (.cells #[] 5)).ownsRow w.heap.size 5 1 (.slice (some ⟨w.heap.size, 0, none⟩) 0 0) 0 [] :=
      ⟨rfl, .inr ⟨_, 0, #[], rfl, Nat.le_refl _, heap_alloc_new w _, Nat.le_refl _, Nat.zero_le _, rfl, rfl⟩⟩
    have hva := hv.below ((Below.refl w.heap.size w).alloc (Nat.le_refl _) (.cells #[] 5)) hhi
    go_wp2_with (at_builtin; refine wpList_append_sl rfl (.tmp 5) (.tmp 6) 71 rfl w.heap.size 5 i0 (.int .u8 0) 1 Tryd.underlying71 hi0 hz0 hz1 hz2 rfl _ _ _ rfl hnew (some ad) cap l rfl hva (f8_one _) (by unfold maxLen; omega) (by omega) (by simp) ?_; intro v1 w2 hown2 hgrow2)
    go_ret
    rw [Nat.zero_add, List.nil_append] at hown2
    exact ⟨_, rfl, hown2, ((Below.refl _ _).alloc (Nat.le_refl _) _).grown hgrow2 (by simp) (fun k hk => by injection hk with hk; exact Nat.le_of_eq hk)⟩

theorem Wr.sl {w : World} {B : Nat} {r : Option Nat} {L : List Bool} (h : Wr w B r L) (hL : L.length < 1099511627776) :
    ∃ v, w.heap[B]? = some (.cells #[v, .int .i64 (L.length : Int)] 151 (0, 0)) ∧ Sl 0 w.heap.size f8 w v (Bt.pack L) := by
  obtain ⟨⟨v, hB, hown, _⟩, _⟩ := h
  exact ⟨v, hB, Sl.owns hown (by have := Bt.pack_len L; omega)⟩

theorem bytes_any (w : World) (B : Nat) (r : Option Nat) (L : List Bool) (h : Wr w B r L) (hL : L.length < 1099511627776) :
    Calls Tryd.prog 31 #[.pointer (some ⟨B, 0, none⟩)] w fun e w' => ∃ v', e = .returned v' ∧ w'.ownsRow w.heap.size 5 1 v' (Bt.pack L).length ((Bt.pack L).map f8) ∧ Below w.heap.size w w' := by
  obtain ⟨v, hB, hs⟩ := h.sl hL
  obtain ⟨c0, c1, _⟩ := two_cells hB
  have HS := Lib.hid hs
  clear hB hs h
  go_enter Tryd.func31, Tryd.ntmps31
  go_wp2_with (go_at_call 82; refine (clone_any 0 w.heap.size _ v (Bt.pack L) HS.out (Nat.le_refl _)).mono ?_; rintro e w1 ⟨v', rfl, hown, hb⟩)
  go_ret
  exact ⟨v', rfl, hown, hb⟩
end Go.Proofs.YtepjpdhmjchakaaDoor
