/- The walk of CrcBursts. No condition. -/
import Derived.Test.YtckmeomhcikmoaaCrcKnown
import Derived.Test.YtckmeomhcikmoaaRow
import Derived.Test.YtckmeomhcikmoaaBurstPlain
namespace Go.Proofs.Ytckmeomhcikmoaa.crcBursts
open Go.RowKit

theorem own_shape {w : World} {base : Nat} {e : TypeId} {size : Nat} {v : Value} {n : Nat} {xs : List Value} (h : w.ownsRow base e size v n xs) (hn : 0 < n) :
    ∃ g cap, v = .slice (some ⟨g, 0, none⟩) n cap ∧ base ≤ g ∧ g < w.heap.size := by
  obtain ⟨_, ⟨_, h0⟩ | ⟨g, cap, cur, hv, hb, hh, _⟩⟩ := h
  · omega
  · refine ⟨g, cap, hv, hb, ?_⟩
    rcases Nat.lt_or_ge g w.heap.size with h | h
    · exact h
    · rw [Array.getElem?_eq_none h] at hh; cases hh

theorem xor_bit8 (y : UInt8) (r : Nat) (hr : r < 8) : bits .xor .u8 (W8 y) (2 ^ r % 256) = W8 (y ^^^ Crc.bit8 r) := by
  have e : (2 ^ r % 256 : Int) = W8 (Crc.bit8 r) := by
    have : ∀ r : Fin 8, (2 ^ r.val % 256 : Int) = W8 (Crc.bit8 r.val) := by decide
    exact this ⟨r, hr⟩
  rw [e, W8_xor]
theorem beq_w32 (x y : BitVec 32) : (W32 x != W32 y) = (x != y) := by
  by_cases h : x = y
  · subst h; simp
  · have : W32 x ≠ W32 y := fun e => h (W32_inj e)
    rw [bne_iff_ne.2 h, bne_iff_ne.2 this]

theorem bit_test (c : BitVec 32) (k : Nat) : bits .and .u32 (W32 c / 2 ^ k) 1 = if c.getLsbD k = true then 1 else 0 := by
  have e : (W32 c / 2 ^ k : Int) = W32 (c >>> k) := by
    unfold W32
    rw [BitVec.toNat_ushiftRight, Nat.shiftRight_eq_div_pow, Int.natCast_ediv, Int.natCast_pow]; rfl
  have e1 := W32_and_lit (c >>> k) 1
  rw [e, e1]
  have h : (c >>> k) &&& 1#32 = if c.getLsbD k = true then 1#32 else 0#32 := by
    apply BitVec.eq_of_getLsbD_eq
    intro i hi
    rw [BitVec.getLsbD_and, BitVec.getLsbD_ushiftRight]
    cases i with
    | zero => cases c.getLsbD k <;> simp
    | succ j =>
      have h1 : (1#32).getLsbD (j + 1) = false := by simp
      rw [h1]; cases c.getLsbD k <;> simp
  rw [h]
  split <;> rfl

set_option maxRecDepth 10000 in
theorem walk (v0 : Value) (l0 : List UInt8) (a1 : Int) (a2 : Int) (w : World) (w0 : Sl 0 w.heap.size f8 w v0 l0) (w1 : (Lit.int .i64 a1).wf = true) (w2 : (Lit.int .u32 a2).wf = true) :
    Calls Try.prog 6 #[v0, .int .i64 a1, .int .u32 a2] w fun e w' => e = .returned (.bool true) ∧ Below w.heap.size w w' := by
  obtain ⟨c, rfl⟩ := of_wf32 w2
  obtain ⟨ao, cap, rfl, hv⟩ := w0
  have hl := hv.len
  have hr1 : -9223372036854775808 ≤ a1 ∧ a1 ≤ 9223372036854775807 := by
    have := w1; simp [Lit.wf, IntKind.min, IntKind.max, IntKind.signed, IntKind.bits] at this; omega
  clear w1 w2
  have H1 := Lib.hid hv
  clear hv
  by_cases h0 : l0.length = 0 ∨ 100000 < l0.length
  · have hcase : ((l0.length : Int) == 0) = true ∨ (((l0.length : Int) == 0) = false ∧ (100000 : Int) < l0.length) := by
      rcases h0 with h | h
      · left; simp [h]
      · right; exact ⟨by simp; intro e; subst e; simp at h, by omega⟩
    clear h0
    rcases hcase with h | ⟨h, h2⟩
    all_goals
      go_enter Try.func6, Try.ntmps6
      go_wp2_with (go_at_call 16; refine (crcKnown_any _).mono ?_; rintro e w1 ⟨rfl, hb1⟩)
      go_ret
      exact ⟨rfl, hb1⟩
  · have hn0 : ((l0.length : Int) == 0) = false := by simp; intro e; subst e; simp at h0
    have hlen : l0.length ≤ 100000 := by omega
    have hpos : 0 < l0.length := by omega
    obtain ⟨i0, hi0, hz0, hz1, hz2⟩ := info_parts info5
    clear h0
    obtain ⟨F, hF, hF2⟩ : ∃ F : Nat, F < 8 * l0.length ∧ ((a1.tmod (8 * (l0.length : Int)) < 0 ∧ a1.tmod (8 * (l0.length : Int)) = F - 8 * l0.length) ∨ (0 ≤ a1.tmod (8 * (l0.length : Int)) ∧ a1.tmod (8 * (l0.length : Int)) = F)) := by
      have h1 := Int.tmod_lt_of_pos a1 (show (0 : Int) < 8 * (l0.length : Int) by omega)
      have h2 := Int.lt_tmod_of_pos a1 (show (0 : Int) < 8 * (l0.length : Int) by omega)
      by_cases hn : a1.tmod (8 * (l0.length : Int)) < 0
      · exact ⟨(a1.tmod (8 * (l0.length : Int)) + 8 * l0.length).toNat, by omega, .inl ⟨hn, by omega⟩⟩
      · exact ⟨(a1.tmod (8 * (l0.length : Int))).toNat, by omega, .inr ⟨by omega, by omega⟩⟩
    obtain ⟨b, off, rfl, hlo, hb, hcell⟩ := H1.out.cells (by intro e; subst e; simp at hpos)
    clear hcell
    rcases hF2 with ⟨hq0, hq⟩ | ⟨hq0, hq⟩
    all_goals
      go_enter Try.func6, Try.ntmps6
      go_wp2_with (first
        | (at_builtin; refine wpList_append_own _ rfl (.tmp 33) (.tmp 34) 23 rfl w.heap.size 5 i0 (.int .u8 0) 1 1 Try.underlying23 hi0 hz0 hz1 hz2 rfl (by decide) _ _ _ rfl (World.ownsRow_nil _ _ _ _) ⟨b, off, none⟩ l0.length cap (l0.map f8) rfl (by simp) (H1.out.news _ rfl) (f8_one l0) (by unfold maxLen; omega) (by omega) (Nat.le_refl _) ?_; intro v1 w1 hown1 hgrow1 hiff; clear hiff)
        | (go_at_call 16; refine (crcKnown_any _).mono ?_; rintro e w1 ⟨rfl, hb1⟩))
      clear hq hq0 hn0
      rw [Nat.zero_add, List.nil_append] at hown1
      obtain ⟨g, cap', rfl, hg, hgw⟩ := own_shape hown1 hpos
      have hb1 : Below w.heap.size w w1 := (Below.refl _ _).grown hgrow1 (Nat.le_refl _) (fun k h => by cases h)
      clear hgrow1
      go_loopw [9, 10, 11] (fun t i _ wr => ∃ k : Nat, k ≤ 32 ∧ i = .int .i64 k ∧ t = .bool (Crc.turned l0 F c k) ∧ wr.ownsRow w.heap.size 5 1 (.slice (some ⟨g, 0, none⟩) l0.length cap') l0.length ((Crc.flips l0 F c k).map f8) ∧ Below w.heap.size w wr) (fun _ i _ _ => 32 - (intOf i).toNat)
      case atStart => exact ⟨0, by omega, rfl, rfl, hown1, hb1⟩
      case round =>
        obtain ⟨k, hk, rfl, rfl, hown, hbr⟩ := hrel
        by_cases hlt : k < 32
        · have hck := bit_test c k
          by_cases hc1 : c.getLsbD k = true
          · rw [if_pos hc1] at hck
            by_cases hF3 : F + k < 8 * l0.length
            · have hcell : wr.cell? ⟨g, (F + k) / 8, none⟩ = some (.int .u8 (W8 ((Crc.flips l0 F c k).getD ((F + k) / 8) 0))) := by
                rw [hown.cellAt _ (by omega)]
                simp [List.getD, Crc.flips_len, show (F + k) / 8 < l0.length by omega]
                rfl
              have hfz := hown.frozenAt ((F + k) / 8)
              have h8 := W8_lt ((Crc.flips l0 F c k).getD ((F + k) / 8) 0)
              have HO := Lib.hid hown
              clear hown hown1
              generalize hy : (Crc.flips l0 F c k).getD ((F + k) / 8) 0 = y at *
              have HY := Lib.hid hy
              clear hy
              go_wp2
              go_roundw
              case rel =>
                have hs := HO.out.stored ((F + k) / 8) (.int .u8 (W8 (y ^^^ Crc.bit8 ((F + k) % 8))))
                refine ⟨k + 1, by omega, by go_num, ?_, ?_, hbr.setCell (by exact hg) _⟩
                · rw [Crc.turned, if_pos ⟨hc1, hF3⟩]
                · rw [xor_bit8 _ _ (Nat.mod_lt _ (by omega)), Crc.flips, if_pos ⟨hc1, hF3⟩, HY.out, List.map_set]
                  exact hs.1
              case measure => simp [intOf]; omega
            · have HO := Lib.hid hown
              clear hown hown1
              go_wp2
              go_roundw
              case rel =>
                have hn : ¬ (c.getLsbD k = true ∧ F + k < 8 * l0.length) := fun h => hF3 h.2
                refine ⟨k + 1, by omega, by go_num, ?_, ?_, hbr⟩
                · rw [Crc.turned, if_neg hn]
                · rw [Crc.flips, if_neg hn]; exact HO.out
              case measure => simp [intOf]; omega
          · rw [if_neg hc1] at hck
            have HO := Lib.hid hown
            clear hown hown1
            go_wp2
            go_roundw
            case rel =>
              have hn : ¬ (c.getLsbD k = true ∧ F + k < 8 * l0.length) := fun h => hc1 h.1
              refine ⟨k + 1, by omega, by go_num, ?_, ?_, hbr⟩
              · rw [Crc.turned, if_neg hn]
              · rw [Crc.flips, if_neg hn]; exact HO.out
            case measure => simp [intOf]; omega
        · have e : k = 32 := by omega
          subst e
          have hsx : Sl w.heap.size wr.heap.size f8 wr (.slice (some ⟨g, 0, none⟩) l0.length cap') (Crc.flips l0 F c 32) :=
            Sl.owns (by rw [Crc.flips_len]; exact hown) (by rw [Crc.flips_len]; exact hl)
          have hs0 : Sl 0 w.heap.size f8 w (.slice (some ⟨b, off, none⟩) l0.length cap) l0 := ⟨_, _, rfl, H1.out⟩
          have HX := Lib.hid hsx
          have H0 := Lib.hid hs0
          clear hsx hs0 hown hown1
          go_wp2_with fail
          refine (crcKnown_any _).mono ?_
          rintro e w2 ⟨rfl, hb2⟩
          go_wp2_with fail
          refine (sum_any _ _ _ _ _ (HX.out.below hb2 (Nat.le_refl _)) hb2.size).mono ?_
          rintro e w3 ⟨rfl, hb3⟩
          have hb13 : Below w.heap.size w w3 := hbr.trans ((hb2.trans (hb3.mono hb2.size)).mono hbr.size)
          go_wp2_with fail
          refine (sum_any _ _ _ _ _ (H0.out.below hb13 (Nat.le_refl _)) hb13.size).mono ?_
          rintro e w4 ⟨rfl, hb4⟩
          have hfin : (W32 (Crc.sum (Crc.flips l0 F c 32)) != W32 (Crc.sum l0)) = Crc.turned l0 F c 32 := by rw [beq_w32, Crc.bursts_bool]
          go_wp2_with fail
          go_ret
          refine ⟨?_, hb13.trans (hb4.mono hb13.size)⟩
          simp
end Go.Proofs.Ytckmeomhcikmoaa.crcBursts
