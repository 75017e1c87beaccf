/- The walk of CrcPieces. No condition. -/
import Derived.Test.YtckmeomhcikmoaaCrcKnown
import Derived.Test.YtckmeomhcikmoaaRows2
import Derived.Test.YtckmeomhcikmoaaApp
namespace Go.Proofs.Ytckmeomhcikmoaa.crcPieces
open Go.RowKit

theorem flat_take {α : Type} (l : List (List α)) (k : Nat) (h : k < l.length) : (l.take (k + 1)).flatten = (l.take k).flatten ++ l[k] := by
  rw [List.take_succ_eq_append_getElem h, List.flatten_append]; simp
theorem flat_le {α : Type} (l : List (List α)) (k : Nat) : (l.take k).flatten.length ≤ l.flatten.length := by
  conv => rhs; rw [← List.take_append_drop k l, List.flatten_append, List.length_append]
  omega

set_option maxRecDepth 100000 in
theorem walk (v0 : Value) (rows0 : List (List UInt8)) (w : World) (w0 : Rws 0 w.heap.size w v0 rows0) :
    Calls Try.prog 4 #[v0] w fun e w' => e = .returned (.bool true) ∧ Below w.heap.size w w' := by
  obtain ⟨vs, hvl, ⟨ao, cap, rfl, hv⟩, hrows⟩ := w0
  have hl := hv.len
  rw [hvl] at hl
  rw [hvl]
  have HV := Lib.hid hv
  have HL := Lib.hid hvl
  have HR := Lib.hid hrows
  clear hv hvl hrows
  obtain ⟨i0, hi0, hz0, hz1, hz2⟩ := info_parts info5
  go_enter Try.func4, Try.ntmps4
  go_wp2
  go_loop [3, 4] (fun n i => ∃ k : Nat, k ≤ rows0.length ∧ i = .int .i64 k ∧ n = .int .i64 ((rows0.length + (rows0.take k).flatten.length : Nat) : Int) ∧ rows0.length + (rows0.take k).flatten.length ≤ 281474976710656) (fun _ i => rows0.length - (intOf i).toNat)
  case atStart => exact ⟨0, by omega, rfl, by simp, by simp; omega⟩
  case round =>
    obtain ⟨k, hk, rfl, rfl, hs⟩ := hrel
    generalize hS : rows0.length + (rows0.take k).flatten.length = S at *
    have HS := Lib.hid hS
    clear hS
    by_cases hlt : k < rows0.length
    · by_cases hb : S ≤ 100000
      · have hlt' : k < vs.length := by rw [HL.out]; exact hlt
        obtain ⟨b, off, rfl, _, _, hcell⟩ := HV.out.cells (by intro e; subst e; simp at hlt')
        obtain ⟨ar, capr, hvr, hsr⟩ := HR.out k hlt hlt'
        have hc1 : w.cell? ⟨b, off + k, none⟩ = some (.slice ar rows0[k].length capr) := by rw [hcell k hlt', hvr]; rfl
        have hlr := hsr.len
        clear hcell hvr hsr
        go_wp2
        go_round
        case rel =>
          refine ⟨k + 1, by omega, by go_num, ?_, ?_⟩
          · rw [flat_take _ _ hlt, List.length_append, ← Nat.add_assoc, HS.out]; go_num
          · rw [flat_take _ _ hlt, List.length_append, ← Nat.add_assoc, HS.out]; omega
        case measure => simp [intOf]; omega
      · go_wp2
        go_ret
        exact ⟨rfl, Below.refl _ _⟩
    · have e : k = rows0.length := by omega
      subst e
      by_cases hb : S ≤ 100000
      · go_wp2_with (go_at_call 13; refine (sum_any 0 0 _ _ _ (Sl.nil _ _ _ _) (by omega)).mono ?_; rintro e w1 ⟨rfl, hb1⟩)
        have htot : rows0.flatten.length ≤ 100000 := by
          have := HS.out; rw [List.take_length] at this; omega
        clear hb hs HS
        go_loopw [5, 6, 7] (fun x s i wr => ∃ k : Nat, k ≤ rows0.length ∧ i = .int .i64 k ∧ s = .int .u32 (W32 (Crc.sum (rows0.take k).flatten)) ∧
            wr.ownsRow w.heap.size 5 1 x (rows0.take k).flatten.length ((rows0.take k).flatten.map f8) ∧ Below w.heap.size w wr) (fun _ _ i _ => rows0.length - (intOf i).toNat)
        case atStart => exact ⟨0, by omega, rfl, rfl, World.ownsRow_nil _ _ _ _, hb1⟩
        case round =>
          obtain ⟨k, hk, rfl, rfl, hown, hbr⟩ := hrel
          by_cases hlt : k < rows0.length
          · have hlt' : k < vs.length := by rw [HL.out]; exact hlt
            obtain ⟨b, off, rfl, _, hbw, hcell⟩ := HV.out.cells (by intro e; subst e; simp at hlt')
            obtain ⟨ar, capr, hvr, hsr⟩ := HR.out k hlt hlt'
            have hc1 : wr.cell? ⟨b, off + k, none⟩ = some (.slice ar rows0[k].length capr) := by
              rw [hbr.cell (p := ⟨b, off + k, none⟩) hbw, hcell k hlt', hvr]; rfl
            have hfl := flat_le rows0 k
            have hfl2 := flat_le rows0 (k + 1)
            have hft := flat_take rows0 k hlt
            have hln : (rows0.take k).flatten.length + rows0[k].length ≤ 100000 := by
              rw [hft, List.length_append] at hfl2; omega
            have HFT := Lib.hid hft
            have HC0 : Hid (w.cell? ⟨b, off + k, none⟩ = some (.slice ar rows0[k].length capr)) := (hcell k hlt').trans (by rw [hvr]; rfl)
            clear hcell hvr hft hfl hfl2
            generalize hA : (rows0.take k).flatten = A at *
            have HA := Lib.hid hA
            clear hA
            have hbn : w.heap.size ≤ wr.heap.size := hbr.size
            have hc0 : Hid (w.cell? ⟨b, off + k, none⟩ = some (.slice ar rows0[k].length capr)) := HC0
            go_wp2_with (first
              | (at_builtin; refine wpList_append_sl rfl (.tmp 36) (.tmp 40) 23 rfl w.heap.size 5 i0 (.int .u8 0) 1 Try.underlying23 hi0 hz0 hz1 hz2 rfl _ _ _ rfl hown ar capr rows0[k] rfl (hsr.below hbr (Nat.le_refl _)) (f8_one _) (by unfold maxLen; omega) (by omega) hbn ?_; intro v1 w2 hown2 hgrow2; have hb2 : Below w.heap.size w w2 := hbr.grown hgrow2 hbn (own_row hown); have hc2 : w2.cell? ⟨b, off + k, none⟩ = some (.slice ar rows0[k].length capr) := (hb2.cell (p := ⟨b, off + k, none⟩) hbw).trans hc0.out; have HO2 := Lib.hid hown2; clear hown2 hgrow2)
              | (go_at_call 14; refine (more_any 0 w.heap.size _ _ _ rows0[k] ⟨_, _, rfl, hsr.below hb2 (Nat.le_refl _)⟩ hb2.size).mono ?_; rintro e w3 ⟨rfl, hb3⟩))
            go_roundw
            case rel =>
              refine ⟨k + 1, by omega, by go_num, ?_, ?_, ?_⟩
              · rw [HFT.out]; unfold Crc.sum; rw [Crc.more_append]
              · rw [HFT.out, List.length_append, List.map_append]
                have h1 := HO2.out
                refine h1.kept (row := none) ⟨hb3.os, hb3.tape, hb3.output, hb3.size, fun i hi _ => hb3.block i hi⟩ ?_
                cases h : v1.ownBlock with
                | none => left; rfl
                | some g => right; simp
              · exact hb2.trans (hb3.mono hb2.size)
            case measure => simp [intOf]; omega
          · have e : k = rows0.length := by omega
            subst e
            rw [List.take_length] at hown ⊢
            have hx := Sl.owns hown (by omega)
            have HX := Lib.hid hx
            clear hx hown
            have e32 : (W32 (Crc.sum rows0.flatten) == W32 (Crc.sum rows0.flatten)) = true := by simp
            go_wp2_with fail
            refine (crcKnown_any _).mono ?_
            rintro e w2 ⟨rfl, hb2⟩
            go_wp2_with fail
            refine (sum_any _ _ _ _ _ (HX.out.below hb2 (Nat.le_refl _)) hb2.size).mono ?_
            rintro e w3 ⟨rfl, hb3⟩
            go_wp2_with fail
            go_ret
            exact ⟨rfl, hbr.trans ((hb2.trans (hb3.mono hb2.size)).mono hbr.size)⟩
      · go_wp2
        go_ret
        exact ⟨rfl, Below.refl _ _⟩
end Go.Proofs.Ytckmeomhcikmoaa.crcPieces
