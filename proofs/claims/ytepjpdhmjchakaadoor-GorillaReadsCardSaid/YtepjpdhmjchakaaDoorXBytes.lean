/- The document's bits as bytes. -/
import Derived.Test.YtepjpdhmjchakaaDoorRefBits
import Derived.Test.YtepjpdhmjchakaaDoorPackPlain
namespace Go.Proofs.YtepjpdhmjchakaaDoor
open Go.RowKit

theorem fb_one (l : List Bool) : ∀ u ∈ l.map fb, u.oneCell' = true := by
  intro u hu
  obtain ⟨_, _, rfl⟩ := List.mem_map.1 hu
  rfl
theorem fb_nat (b : Bool) : fb b = .int .u8 ((b.toNat : Nat) : Int) := by cases b <;> rfl
theorem Xr.sl {w : World} {B : Nat} {r : Option Nat} {L : List Bool} (h : Xr w B r L) (hL : L.length < 1099511627776) :
    ∃ v, w.heap[B]? = some (.cells #[v, .int .i64 0] 160 (0, 0)) ∧ Sl 0 w.heap.size fb w v L := by
  obtain ⟨⟨v, hB, hown, _⟩, _⟩ := h
  exact ⟨v, hB, Sl.owns hown (by omega)⟩

set_option maxRecDepth 100000 in
theorem xbytes_any (w : World) (B : Nat) (r : Option Nat) (L : List Bool) (h : Xr w B r L) (hL : L.length < 1099511627776) :
    Calls Tryd.prog 88 #[.pointer (some ⟨B, 0, none⟩)] w fun e w' => ∃ v', e = .returned v' ∧ w'.ownsRow w.heap.size 5 1 v' (Bt.pack L).length ((Bt.pack L).map f8) ∧ Below w.heap.size w w' := by
  obtain ⟨v, hB, hs⟩ := h.sl hL
  obtain ⟨i0, hi0, hz0, hz1, hz2⟩ := info_parts info5
  have hBl : B < w.heap.size := block_lt_of_cell (two_cells hB).1
  have hpl := Bt.pack_len L
  obtain ⟨ao, cap, rfl, hsl⟩ := hs
  have HB := Lib.hid hB
  have HS := Lib.hid hsl
  have HP := Lib.hid hpl
  clear hB hsl h
  go_enter Tryd.func88, Tryd.ntmps88
  go_wp2
  go_loopw [3, 4] (fun o i wr => ∃ c : Nat, c ≤ (Bt.pack L).length ∧ i = .int .i64 ((8 * c : Nat) : Int) ∧ wr.ownsRow w.heap.size 5 1 o c (((Bt.pack L).take c).map f8) ∧ Below w.heap.size w wr) (fun _ i _ => 8 * (Bt.pack L).length - (intOf i).toNat)
  case atStart => exact ⟨0, Nat.zero_le _, rfl, by simpa using World.ownsRow_nil _ _ _ _, Below.refl _ _⟩
  case round =>
    obtain ⟨c, hc, rfl, hown, hbel⟩ := hrel
    have HO := Lib.hid hown
    have HBel := Lib.hid hbel
    have hsz := hbel.size
    obtain ⟨c0, c1, fz⟩ := two_cells (show wr.heap[B]? = _ from (hbel.block B hBl).trans HB.out)
    have HSL := Lib.hid (HS.out.below hbel (Nat.le_refl _))
    clear hown hbel
    by_cases hlt : 8 * c < L.length
    · have hcl : c < (Bt.pack L).length := by rw [HP.out]; omega
      go_wp2
      go_loopw [5, 6] (fun n k w' => ∃ j : Nat, j ≤ 8 ∧ k = .int .i64 j ∧ n = .int .i64 (Bt.cv L (8 * c) j : Nat) ∧ wr = w') (fun _ k _ => 8 - (intOf k).toNat)
      case atStart => exact ⟨0, by omega, rfl, by rw [Bt.cv_zero]; rfl, rfl⟩
      case round =>
        obtain ⟨j, hj, rfl, rfl, hw⟩ := hrel
        subst hw
        have hcv := Bt.cv_lt L (8 * c) j
        by_cases hj8 : j < 8
        · have hcv2 : Bt.cv L (8 * c) j < 256 := Nat.lt_of_lt_of_le hcv (Nat.pow_le_pow_right (by omega) hj)
          have hsucc := Bt.cv_succ L (8 * c) j
          by_cases hin : 8 * c + j < L.length
          · obtain ⟨b, off, rfl, _, _, hcell⟩ := HSL.out.cells (by intro e; subst e; simp at hin)
            have hcc := hcell (8 * c + j) hin
            rw [fb_nat] at hcc
            have hgd : L.getD (8 * c + j) false = L[8 * c + j] := by simp [List.getD, hin]
            rw [hgd] at hsucc
            have ht : L[8 * c + j].toNat ≤ 1 := by cases L[8 * c + j] <;> decide
            generalize L[8 * c + j].toNat = t at *
            generalize Bt.cv L (8 * c) j = y at *
            have HSU := Lib.hid hsucc
            have i1 : (0 : Int) ≤ ((8 * c + j : Nat) : Int) ∧ ((8 * c + j : Nat) : Int) < (L.length : Int) := by omega
            clear hsucc hcell hgd hcv
            go_wp2
            go_roundw
            case rel => exact ⟨j + 1, by omega, by push_cast; rfl, by rw [HSU.out]; push_cast; rfl, trivial⟩
            case measure => simp [intOf]; omega
          · have hgd : L.getD (8 * c + j) false = false := by simp [List.getD, hin]
            rw [hgd] at hsucc
            generalize Bt.cv L (8 * c) j = y at *
            have HSU := Lib.hid hsucc
            clear hsucc hgd hcv
            go_wp2
            go_roundw
            case rel => exact ⟨j + 1, by omega, by push_cast; rfl, by rw [HSU.out]; simp, trivial⟩
            case measure => simp [intOf]; omega
        · obtain rfl : j = 8 := by omega
          have hpt := Bt.pack_take L c hcl
          generalize Bt.cv L (8 * c) 8 = y at *
          have hy : y < 256 := hcv
          have HPT := Lib.hid hpt
          clear hpt hcv
          go_wp2_with (at_builtin; refine wpList_append_own _ rfl (.tmp 43) (.tmp 46) 71 rfl w.heap.size 5 i0 (.int .u8 0) 1 1 Tryd.underlying71 hi0 hz0 hz1 hz2 rfl (by decide) _ _ _ rfl (HO.out.alloc _) ⟨wr.heap.size, 0, none⟩ 1 1 [.int .u8 (y : Int)] rfl rfl (news_alloc wr [.int .u8 (y : Int)] 5) (by simp [Value.oneCell']) (by unfold maxLen; omega) (by omega) (by simp; omega) ?_; intro v1 w1 hown1 hgrow1 _; have HO1 := Lib.hid hown1; have HG1 := Lib.hid hgrow1; clear hown1 hgrow1)
          go_roundw
          case rel =>
            refine ⟨c + 1, by omega, by push_cast; rfl, ?_, ?_⟩
            · rw [HPT.out, List.map_append]
              have e : [UInt8.ofNat y].map f8 = [.int .u8 (y : Int)] := by
                simp [f8, W8]; omega
              rw [e]
              exact HO1.out
            · exact (HBel.out.alloc hsz _).grown HG1.out (by simp; omega) (own_row HO.out)
          case measure => simp [intOf]; omega
    · have e : c = (Bt.pack L).length := by have := HP.out; omega
      subst e
      go_wp2
      go_ret
      refine ⟨_, rfl, ?_, HBel.out⟩
      have := HO.out
      rw [List.take_length] at this
      exact this
end Go.Proofs.YtepjpdhmjchakaaDoor
