import Derived.Test.YtepjpdhmjchakaaGreatDoorP13
import Derived.Test.YtepjpdhmjchakaaGreatDoorP14
import Derived.Test.YtepjpdhmjchakaaGreatDoorQ7
/- ownSamples of a list of one row: marked, lengthened, looked at. Printed by genownone.py. -/
namespace Go.Proofs.YtepjpdhmjchakaaGreatDoor
open Go.RowKit
set_option linter.unusedVariables false

theorem undSm : Tryz.prog.underlying 50 = some (.slice 22) := by kernel_rfl
theorem infoOSm : (Tryz.prog.info? 79).map (fun i => (i.zero, i.size, i.bytes)) = some (some (.agg #[.int .i64 0, .int .u64 0]), 2, 16) := by kernel_rfl
theorem infoLSm : (Tryz.prog.info? 22).map (fun i => (i.zero, i.size, i.bytes)) = some (some (.slice none 0 0), 1, 24) := by kernel_rfl
def mSm (k : Nat) : List Value := [.int .i64 (k : Int), .int .u64 0]
def tSm (k : Nat) : List Value := [.int .i64 (-1000 + (k : Int)), .int .u64 0]
theorem mSm_take {xs : List Value} {k n : Nat} (hl : xs.length = n * 2) (hk : k < n) (h : xs.take (k * 2) = mks mSm k) : ((xs.set (k * 2) (.int .i64 (k : Int))).set (k * 2 + 1) (.int .u64 0)).take ((k + 1) * 2) = mks mSm (k + 1) := by
  rw [mks_succ, ← h, show (k + 1) * 2 = k * 2 + 1 + 1 by omega, List.take_succ_eq_append_getElem (by simp; omega), List.take_succ_eq_append_getElem (by simp; omega)]
  simp [mSm, List.take_set_of_le]

set_option maxHeartbeats 4000000 in
set_option maxRecDepth 100000 in
theorem ownSm_any (w : World) (base : Nat) (vb v : Value) (n : Nat) (xs : List Value) (hvb : w.ownsRow base 22 1 vb 1 [v]) (hv : w.ownsRow base 79 2 v n xs) (hn : n ≤ 1000000000) (hb : base ≤ w.heap.size) :
    Calls Tryz.prog 44 #[vb] w fun e w' => e = .returned (.bool true) ∧ Oth [v] w w' := by
  obtain ⟨i0, hi0, hz0, hz1, hz2⟩ := info_parts infoOSm
  obtain ⟨i1, hi1, hy0, hy1, hy2⟩ := info_parts infoLSm
  obtain ⟨g0, c0, rfl, _, hg0⟩ := own_shape hvb (by decide)
  have hne := own_apart hvb hv (by decide) g0 rfl
  have hcv : ∀ wr, Oth [v] w wr → wr.cell? ⟨g0, 0, none⟩ = some v := fun wr o =>
    (World.cell?_of_block (o.block g0 hg0 (fun u hu e1 => by simp at hu; subst hu; exact hne e1))).trans (hvb.cellAt 0 (by decide))
  have HCV := Lib.hid hcv
  have HV0 := Lib.hid hv
  have hlv := fun k (hk : v.ownBlock = some k) => (hv.lt k hk).2
  have HLV := Lib.hid hlv
  clear hvb hv hne hcv hlv
  go_enter Tryz.func44, Tryz.ntmps44
  go_wp2_with fail
  go_loopw [3] (fun i wr => ∃ (i' : Int) (xs : List Value), (i' = 0 ∨ i' = 1) ∧ i = .int .i64 i' ∧ wr.ownsRow base 79 2 v n xs ∧ (i' = 1 → xs = mks mSm n) ∧ Oth [v] w wr) (fun i _ => 1 - (intOf i).toNat)
  case atStart => exact ⟨0, xs, .inl rfl, rfl, HV0.out, (fun h => absurd h (by decide)), Oth.refl _ _⟩
  case round =>
    obtain ⟨i', xs1, hi', rfl, hrv, hmk, hoth⟩ := hrel
    have cv := HCV.out wr hoth
    have HRV := Lib.hid hrv
    have HMK := Lib.hid hmk
    have HO0 := Lib.hid hoth
    obtain ⟨av, cv', rfl⟩ := own_slice hrv
    clear hrv hmk hoth
    by_cases hi0' : i' = 0
    · subst hi0'
      go_wp2_with fail
      go_loopw [4] (fun k wr => ∃ (k' : Nat) (xs : List Value), k' ≤ n ∧ k = .int .i64 k' ∧ wr.ownsRow base 79 2 (.slice av n cv') n xs ∧ xs.take (k' * 2) = mks mSm k' ∧ Oth [.slice av n cv'] w wr) (fun k _ => n - (intOf k).toNat)
      case atStart => exact ⟨0, xs1, Nat.zero_le _, rfl, HRV.out, by simp [mks], HO0.out⟩
      case round =>
        obtain ⟨k, xs, hk, rfl, hxs, htk, ho⟩ := hrel
        have cv := HCV.out wr ho
        by_cases hlk : k < n
        · obtain ⟨g, cg, hv1, _, _⟩ := own_shape hxs (by omega)
          injection hv1 with ha _ hc
          subst ha hc
          have hxl := hxs.1
          obtain ⟨z0, hz0⟩ : ∃ z, wr.cell? ⟨g, k * 2, none⟩ = some z := ⟨_, (hxs.cellAt (k * 2) (by omega)).trans (List.getElem?_eq_getElem (by omega))⟩
          obtain ⟨z1, hz1⟩ : ∃ z, wr.cell? ⟨g, k * 2 + 1, none⟩ = some z := ⟨_, (hxs.cellAt (k * 2 + 1) (by omega)).trans (List.getElem?_eq_getElem (by omega))⟩
          have hf0 := hxs.frozenAt (k * 2)
          have hf1 := hxs.frozenAt (k * 2 + 1)
          have j2 : (0 : Int) ≤ (k : Int) ∧ (k : Int) < (n : Int) := by omega
          have HXS := Lib.hid hxs
          have HTK := Lib.hid htk
          have HXL := Lib.hid hxl
          have HO := Lib.hid ho
          clear hxs htk ho hxl
          go_wp2
          go_roundw
          case rel =>
            have s0 := HXS.out.stored (k * 2) (.int .i64 (k : Int))
            have s1 := s0.1.stored (k * 2 + 1) (.int .u64 0)
            exact ⟨k + 1, _, by omega, by push_cast; rfl, s1.1, mSm_take HXL.out hlk HTK.out, (Oth.set1 (Oth.set1 HO.out s0.2) s1.2)⟩
          case measure => simp [intOf]; omega
        · obtain rfl : k = n := by omega
          have HXS := Lib.hid hxs
          have HO := Lib.hid ho
          have HTK := Lib.hid (show xs = mks mSm k by rw [← htk, List.take_of_length_le (by rw [hxs.1]; exact Nat.le_refl _)])
          clear hxs htk ho
          go_wp2_with fail
          go_roundw
          case rel => exact ⟨1, xs, .inr rfl, rfl, HXS.out, fun _ => HTK.out, HO.out⟩
          case measure => simp [intOf]
    · obtain rfl : i' = 1 := by omega
      have HRM := Lib.hid (show wr.ownsRow base 79 2 (.slice av n cv') n (mks mSm n) by have := HRV.out; rwa [HMK.out rfl] at this)
      clear HRV HMK
      go_wp2_with fail
      go_loopw [5, 6] (fun lv i wr => ∃ i' : Int, (i' = 0 ∨ i' = 1) ∧ i = .int .i64 i' ∧ ((i' = 0 ∧ lv = .slice none 0 0 ∧ wr.ownsRow base 79 2 (.slice av n cv') n (mks mSm n) ∧ Oth [.slice av n cv'] w wr) ∨ (i' = 1 ∧ ∃ x, wr.ownsRow w.heap.size 22 1 lv 1 [x] ∧ Two w wr base 79 2 n 16 (.slice av n cv') x (mks mSm n) (mks tSm 16)))) (fun _ i _ => 1 - (intOf i).toNat)
      case atStart => exact ⟨0, .inl rfl, rfl, .inl ⟨rfl, rfl, HRM.out, HO0.out⟩⟩
      case round =>
        obtain ⟨i', hi', rfl, ⟨rfl, rfl, hrm, ho⟩ | ⟨rfl, x, hrl, htwo⟩⟩ := hrel
        · have cv := HCV.out wr ho
          have hsz := ho.size
          have HTW := Lib.hid (show Two w wr base 79 2 n 0 (.slice av n cv') (.slice av n cv') (mks mSm n) (mks tSm 0) from ⟨hrm, by simpa [mks] using hrm, .inl rfl, HLV.out, ho⟩)
          clear hrm ho
          go_wp2_with fail
          go_loopw [7, 8] (fun x m wr => ∃ m' : Nat, m' ≤ 16 ∧ m = .int .i64 m' ∧ Two w wr base 79 2 n m' (.slice av n cv') x (mks mSm n) (mks tSm m')) (fun _ m _ => 16 - (intOf m).toNat)
          case atStart => exact ⟨0, by decide, rfl, HTW.out⟩
          case round =>
            obtain ⟨m, hm, rfl, htw⟩ := hrel
            have HT := Lib.hid htw
            have hsz := htw.oth.size
            have cv := HCV.out wr htw.oth
            by_cases hmN : m < 16
            · clear htw
              go_wp2_with (at_builtin; go_loud (refine wpList_append_stay2 _ rfl (.tmp 53) (.tmp 60) 22 rfl base 79 i0 (.agg #[.int .i64 0, .int .u64 0]) 2 16 Tryz.underlying22 hi0 hz0 hz1 hz2 rfl (by decide) _ (n + m) _ rfl (HT.out.rx.alloc _) ⟨wr.heap.size, 0, none⟩ 1 (tSm m) rfl rfl (news_alloc wr (tSm m) 79) (by simp [tSm, Value.oneCell']) (by unfold maxLen; omega) (by omega) (by simp; omega) ?_); intro g cap w1 hown1 hst1 hgl; have HO1 := Lib.hid hown1; have HS1 := Lib.hid hst1; clear hown1 hst1 hgl)
              go_roundw
              case rel => exact ⟨m + 1, by omega, by push_cast; rfl, by rw [mks_succ]; exact HT.out.step (by decide) HO1.out HS1.out⟩
              case measure => simp [intOf]; omega
            · obtain rfl : m = 16 := by omega
              obtain ⟨gx, cx, rfl, _, _⟩ := own_shape htw.rx (by omega)
              clear htw
              go_wp2_with (at_builtin; go_loud (refine wpList_append_own _ rfl (.tmp 62) (.tmp 64) 50 rfl w.heap.size 22 i1 (.slice none 0 0) 1 24 undSm hi1 hy0 hy1 hy2 rfl (by decide) _ 0 [] rfl (World.ownsRow_nil _ _ _ _) ⟨wr.heap.size, 0, none⟩ 1 1 [.slice (some ⟨gx, 0, none⟩) (n + 16) cx] rfl rfl (news_alloc wr [.slice (some ⟨gx, 0, none⟩) (n + 16) cx] 22) (by simp [Value.oneCell']) (by unfold maxLen; omega) (by omega) (by simp; omega) ?_); intro v4 w4 hown4 hgrow4 _; have HO4 := Lib.hid hown4; have HG4 := Lib.hid hgrow4; clear hown4 hgrow4)
              go_roundw
              case rel => exact ⟨1, .inr rfl, rfl, .inr ⟨rfl, _, HO4.out, HT.out.fresh (grown_alloc HG4.out) (fun k hk => by cases hk)⟩⟩
              case measure => simp [intOf]
        · have cv := HCV.out wr htwo.oth
          obtain ⟨gl, cl, rfl, _, _⟩ := own_shape hrl (by decide)
          have cl1 : wr.cell? ⟨gl, 0, none⟩ = some x := hrl.cellAt 0 (by decide)
          obtain ⟨gx, cx, rfl, _, _⟩ := own_shape htwo.rx (by omega)
          have HV := Lib.hid htwo.rv
          have HX := Lib.hid htwo.rx
          have HOT := Lib.hid htwo.oth
          clear hrl htwo
          go_wp2_with fail
          go_loopw [9] (fun i w' => ∃ i' : Int, (i' = 0 ∨ i' = 1) ∧ i = .int .i64 i' ∧ wr = w') (fun i _ => 1 - (intOf i).toNat)
          case atStart => exact ⟨0, .inl rfl, rfl, rfl⟩
          case round =>
            obtain ⟨i', hi', rfl, hw⟩ := hrel
            subst hw
            by_cases hi0' : i' = 0
            · subst hi0'
              go_wp2_with fail
              go_loopw [11] (fun k w' => ∃ k' : Nat, k' ≤ n ∧ k = .int .i64 k' ∧ wr = w') (fun k _ => n - (intOf k).toNat)
              case atStart => exact ⟨0, Nat.zero_le _, rfl, rfl⟩
              case round =>
                obtain ⟨k, hk, rfl, hw⟩ := hrel
                subst hw
                by_cases hlk : k < n
                · obtain ⟨gv, cw, hv1, _, _⟩ := own_shape HV.out (by omega)
                  injection hv1 with hb1 _ hb2
                  subst hb1 hb2
                  have ha0 : wr.cell? ⟨gv, k * 2, none⟩ = some (.int .i64 (k : Int)) := (HV.out.cellAt (k * 2) (by omega)).trans (mks_get (f := mSm) (s := 2) (fun _ => rfl) (n := n) (k := k) (i := 0) hlk (by decide))
                  have ha1 : wr.cell? ⟨gv, k * 2 + 1, none⟩ = some (.int .u64 0) := (HV.out.cellAt (k * 2 + 1) (by omega)).trans (mks_get (f := mSm) (s := 2) (fun _ => rfl) (n := n) (k := k) (i := 1) hlk (by decide))
                  have hb0 : wr.cell? ⟨gx, k * 2, none⟩ = some (.int .i64 (k : Int)) := (HX.out.cellAt (k * 2) (by omega)).trans ((List.getElem?_append_left (by rw [mks_len (s := 2) (fun _ => rfl)]; omega)).trans (mks_get (f := mSm) (s := 2) (fun _ => rfl) (n := n) (k := k) (i := 0) hlk (by decide)))
                  have hb1 : wr.cell? ⟨gx, k * 2 + 1, none⟩ = some (.int .u64 0) := (HX.out.cellAt (k * 2 + 1) (by omega)).trans ((List.getElem?_append_left (by rw [mks_len (s := 2) (fun _ => rfl)]; omega)).trans (mks_get (f := mSm) (s := 2) (fun _ => rfl) (n := n) (k := k) (i := 1) hlk (by decide)))
                  have j2 : (0 : Int) ≤ (k : Int) ∧ (k : Int) < (n : Int) := by omega
                  have j3 : (0 : Int) ≤ (k : Int) ∧ (k : Int) < ((n + 16 : Nat) : Int) := by omega
                  go_wp2
                  go_roundw
                  case rel => exact ⟨k + 1, by omega, by push_cast; rfl, trivial⟩
                  case measure => simp [intOf]; omega
                · obtain rfl : k = n := by omega
                  go_wp2_with fail
                  go_loopw [12] (fun j w' => ∃ k' : Nat, k' ≤ 16 ∧ j = .int .i64 k' ∧ wr = w') (fun j _ => 16 - (intOf j).toNat)
                  case atStart => exact ⟨0, Nat.zero_le _, rfl, rfl⟩
                  case round =>
                    obtain ⟨q, hq, rfl, hw⟩ := hrel
                    subst hw
                    by_cases hlq : q < 16
                    · have hd0 : wr.cell? ⟨gx, (k + q) * 2, none⟩ = some (.int .i64 (-1000 + (q : Int))) := (HX.out.cellAt ((k + q) * 2) (by omega)).trans ((List.getElem?_append_right (by rw [mks_len (s := 2) (fun _ => rfl)]; omega)).trans (by rw [mks_len (s := 2) (fun _ => rfl), show (k + q) * 2 - k * 2 = q * 2 + 0 by omega]; exact mks_get (f := tSm) (s := 2) (fun _ => rfl) (n := 16) (k := q) (i := 0) hlq (by decide)))
                      have hd1 : wr.cell? ⟨gx, (k + q) * 2 + 1, none⟩ = some (.int .u64 0) := (HX.out.cellAt ((k + q) * 2 + 1) (by omega)).trans ((List.getElem?_append_right (by rw [mks_len (s := 2) (fun _ => rfl)]; omega)).trans (by rw [mks_len (s := 2) (fun _ => rfl), show (k + q) * 2 + 1 - k * 2 = q * 2 + 1 by omega]; exact mks_get (f := tSm) (s := 2) (fun _ => rfl) (n := 16) (k := q) (i := 1) hlq (by decide)))
                      have j2 : (0 : Int) ≤ (k : Int) + (q : Int) ∧ (k : Int) + (q : Int) < ((k + 16 : Nat) : Int) := by omega
                      go_wp2
                      go_roundw
                      case rel => exact ⟨q + 1, by omega, by push_cast; rfl, trivial⟩
                      case measure => simp [intOf]; omega
                    · obtain rfl : q = 16 := by omega
                      go_wp2
                      go_roundw
                      case rel => exact ⟨1, .inr rfl, rfl, trivial⟩
                      case measure => simp [intOf]
            · obtain rfl : i' = 1 := by omega
              go_wp2
              go_ret
              exact ⟨rfl, HOT.out⟩
end Go.Proofs.YtepjpdhmjchakaaGreatDoor
