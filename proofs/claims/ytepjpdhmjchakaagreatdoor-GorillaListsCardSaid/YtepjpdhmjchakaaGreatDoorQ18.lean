import Derived.Test.YtepjpdhmjchakaaGreatDoorP13
import Derived.Test.YtepjpdhmjchakaaGreatDoorP14
import Derived.Test.YtepjpdhmjchakaaGreatDoorQ7
/- ownChunks of a list of one row: marked, lengthened, looked at. Printed by genownone.py. -/
namespace Go.Proofs.YtepjpdhmjchakaaGreatDoor
open Go.RowKit
set_option linter.unusedVariables false

theorem undCk : Tryz.prog.underlying 66 = some (.slice 23) := by kernel_rfl
theorem infoOCk : (Tryz.prog.info? 26).map (fun i => (i.zero, i.size, i.bytes)) = some (some (.agg #[.int .i64 0, .int .i64 0, .int .i64 0, .slice none 0 0]), 4, 48) := by kernel_rfl
theorem infoLCk : (Tryz.prog.info? 23).map (fun i => (i.zero, i.size, i.bytes)) = some (some (.slice none 0 0), 1, 24) := by kernel_rfl
def mCk (k : Nat) : List Value := [.int .i64 0, .int .i64 0, .int .i64 (k : Int), .slice none 0 0]
def tCk (k : Nat) : List Value := [.int .i64 0, .int .i64 0, .int .i64 (-1000 + (k : Int)), .slice none 0 0]
theorem mCk_take {xs : List Value} {k n : Nat} (hl : xs.length = n * 4) (hk : k < n) (h : xs.take (k * 4) = mks mCk k) : ((((xs.set (k * 4) (.int .i64 0)).set (k * 4 + 1) (.int .i64 0)).set (k * 4 + 2) (.int .i64 (k : Int))).set (k * 4 + 3) (.slice none 0 0)).take ((k + 1) * 4) = mks mCk (k + 1) := by
  rw [mks_succ, ← h, show (k + 1) * 4 = k * 4 + 1 + 1 + 1 + 1 by omega, List.take_succ_eq_append_getElem (by simp; omega), List.take_succ_eq_append_getElem (by simp; omega), List.take_succ_eq_append_getElem (by simp; omega), List.take_succ_eq_append_getElem (by simp; omega)]
  simp [mCk, List.take_set_of_le]

set_option maxHeartbeats 4000000 in
set_option maxRecDepth 100000 in
theorem ownCk_any (w : World) (base : Nat) (vb v : Value) (n : Nat) (xs : List Value) (hvb : w.ownsRow base 23 1 vb 1 [v]) (hv : w.ownsRow base 26 4 v n xs) (hn : n ≤ 1000000000) (hb : base ≤ w.heap.size) :
    Calls Tryz.prog 60 #[vb] w fun e w' => e = .returned (.bool true) ∧ Oth [v] w w' := by
  obtain ⟨i0, hi0, hz0, hz1, hz2⟩ := info_parts infoOCk
  obtain ⟨i1, hi1, hy0, hy1, hy2⟩ := info_parts infoLCk
  obtain ⟨g0, c0, rfl, _, hg0⟩ := own_shape hvb (by decide)
  have hne := own_apart hvb hv (by decide) g0 rfl
  have hcv : ∀ wr, Oth [v] w wr → wr.cell? ⟨g0, 0, none⟩ = some v := fun wr o =>
    (World.cell?_of_block (o.block g0 hg0 (fun u hu e1 => by simp at hu; subst hu; exact hne e1))).trans (hvb.cellAt 0 (by decide))
  have HCV := Lib.hid hcv
  have HV0 := Lib.hid hv
  have hlv := fun k (hk : v.ownBlock = some k) => (hv.lt k hk).2
  have HLV := Lib.hid hlv
  clear hvb hv hne hcv hlv
  go_enter Tryz.func60, Tryz.ntmps60
  go_wp2_with fail
  go_loopw [3] (fun i wr => ∃ (i' : Int) (xs : List Value), (i' = 0 ∨ i' = 1) ∧ i = .int .i64 i' ∧ wr.ownsRow base 26 4 v n xs ∧ (i' = 1 → xs = mks mCk n) ∧ Oth [v] w wr) (fun i _ => 1 - (intOf i).toNat)
  case atStart => exact ⟨0, xs, .inl rfl, rfl, HV0.out, (fun h => absurd h (by decide)), Oth.refl _ _⟩
  case round =>
    obtain ⟨i', xs1, hi', rfl, hrv, hmk, hoth⟩ := hrel
    have cv := HCV.out wr hoth
    have HRV := Lib.hid hrv
    have HMK := Lib.hid hmk
    have HO0 := Lib.hid hoth
    obtain ⟨av, cv', rfl⟩ := own_slice hrv
    clear hrv hmk hoth
    by_cases hi0' : i' = 0
    · subst hi0'
      go_wp2_with fail
      go_loopw [4] (fun k wr => ∃ (k' : Nat) (xs : List Value), k' ≤ n ∧ k = .int .i64 k' ∧ wr.ownsRow base 26 4 (.slice av n cv') n xs ∧ xs.take (k' * 4) = mks mCk k' ∧ Oth [.slice av n cv'] w wr) (fun k _ => n - (intOf k).toNat)
      case atStart => exact ⟨0, xs1, Nat.zero_le _, rfl, HRV.out, by simp [mks], HO0.out⟩
      case round =>
        obtain ⟨k, xs, hk, rfl, hxs, htk, ho⟩ := hrel
        have cv := HCV.out wr ho
        by_cases hlk : k < n
        · obtain ⟨g, cg, hv1, _, _⟩ := own_shape hxs (by omega)
          injection hv1 with ha _ hc
          subst ha hc
          have hxl := hxs.1
          obtain ⟨z0, hz0⟩ : ∃ z, wr.cell? ⟨g, k * 4, none⟩ = some z := ⟨_, (hxs.cellAt (k * 4) (by omega)).trans (List.getElem?_eq_getElem (by omega))⟩
          obtain ⟨z1, hz1⟩ : ∃ z, wr.cell? ⟨g, k * 4 + 1, none⟩ = some z := ⟨_, (hxs.cellAt (k * 4 + 1) (by omega)).trans (List.getElem?_eq_getElem (by omega))⟩
          obtain ⟨z2, hz2⟩ : ∃ z, wr.cell? ⟨g, k * 4 + 2, none⟩ = some z := ⟨_, (hxs.cellAt (k * 4 + 2) (by omega)).trans (List.getElem?_eq_getElem (by omega))⟩
          obtain ⟨z3, hz3⟩ : ∃ z, wr.cell? ⟨g, k * 4 + 3, none⟩ = some z := ⟨_, (hxs.cellAt (k * 4 + 3) (by omega)).trans (List.getElem?_eq_getElem (by omega))⟩
          have hf0 := hxs.frozenAt (k * 4)
          have hf1 := hxs.frozenAt (k * 4 + 1)
          have hf2 := hxs.frozenAt (k * 4 + 2)
          have hf3 := hxs.frozenAt (k * 4 + 3)
          have j2 : (0 : Int) ≤ (k : Int) ∧ (k : Int) < (n : Int) := by omega
          have HXS := Lib.hid hxs
          have HTK := Lib.hid htk
          have HXL := Lib.hid hxl
          have HO := Lib.hid ho
          clear hxs htk ho hxl
          go_wp2
          go_roundw
          case rel =>
            have s0 := HXS.out.stored (k * 4) (.int .i64 0)
            have s1 := s0.1.stored (k * 4 + 1) (.int .i64 0)
            have s2 := s1.1.stored (k * 4 + 2) (.int .i64 (k : Int))
            have s3 := s2.1.stored (k * 4 + 3) (.slice none 0 0)
            exact ⟨k + 1, _, by omega, by push_cast; rfl, s3.1, mCk_take HXL.out hlk HTK.out, (Oth.set1 (Oth.set1 (Oth.set1 (Oth.set1 HO.out s0.2) s1.2) s2.2) s3.2)⟩
          case measure => simp [intOf]; omega
        · obtain rfl : k = n := by omega
          have HXS := Lib.hid hxs
          have HO := Lib.hid ho
          have HTK := Lib.hid (show xs = mks mCk k by rw [← htk, List.take_of_length_le (by rw [hxs.1]; exact Nat.le_refl _)])
          clear hxs htk ho
          go_wp2_with fail
          go_roundw
          case rel => exact ⟨1, xs, .inr rfl, rfl, HXS.out, fun _ => HTK.out, HO.out⟩
          case measure => simp [intOf]
    · obtain rfl : i' = 1 := by omega
      have HRM := Lib.hid (show wr.ownsRow base 26 4 (.slice av n cv') n (mks mCk n) by have := HRV.out; rwa [HMK.out rfl] at this)
      clear HRV HMK
      go_wp2_with fail
      go_loopw [5, 6] (fun lv i wr => ∃ i' : Int, (i' = 0 ∨ i' = 1) ∧ i = .int .i64 i' ∧ ((i' = 0 ∧ lv = .slice none 0 0 ∧ wr.ownsRow base 26 4 (.slice av n cv') n (mks mCk n) ∧ Oth [.slice av n cv'] w wr) ∨ (i' = 1 ∧ ∃ x, wr.ownsRow w.heap.size 23 1 lv 1 [x] ∧ Two w wr base 26 4 n 8 (.slice av n cv') x (mks mCk n) (mks tCk 8)))) (fun _ i _ => 1 - (intOf i).toNat)
      case atStart => exact ⟨0, .inl rfl, rfl, .inl ⟨rfl, rfl, HRM.out, HO0.out⟩⟩
      case round =>
        obtain ⟨i', hi', rfl, ⟨rfl, rfl, hrm, ho⟩ | ⟨rfl, x, hrl, htwo⟩⟩ := hrel
        · have cv := HCV.out wr ho
          have hsz := ho.size
          have HTW := Lib.hid (show Two w wr base 26 4 n 0 (.slice av n cv') (.slice av n cv') (mks mCk n) (mks tCk 0) from ⟨hrm, by simpa [mks] using hrm, .inl rfl, HLV.out, ho⟩)
          clear hrm ho
          go_wp2_with fail
          go_loopw [7, 8] (fun x m wr => ∃ m' : Nat, m' ≤ 8 ∧ m = .int .i64 m' ∧ Two w wr base 26 4 n m' (.slice av n cv') x (mks mCk n) (mks tCk m')) (fun _ m _ => 8 - (intOf m).toNat)
          case atStart => exact ⟨0, by decide, rfl, HTW.out⟩
          case round =>
            obtain ⟨m, hm, rfl, htw⟩ := hrel
            have HT := Lib.hid htw
            have hsz := htw.oth.size
            have cv := HCV.out wr htw.oth
            by_cases hmN : m < 8
            · clear htw
              go_wp2_with (at_builtin; go_loud (refine wpList_append_stay2 _ rfl (.tmp 53) (.tmp 60) 23 rfl base 26 i0 (.agg #[.int .i64 0, .int .i64 0, .int .i64 0, .slice none 0 0]) 4 48 Tryz.underlying23 hi0 hz0 hz1 hz2 rfl (by decide) _ (n + m) _ rfl (HT.out.rx.alloc _) ⟨wr.heap.size, 0, none⟩ 1 (tCk m) rfl rfl (news_alloc wr (tCk m) 26) (by simp [tCk, Value.oneCell']) (by unfold maxLen; omega) (by omega) (by simp; omega) ?_); intro g cap w1 hown1 hst1 hgl; have HO1 := Lib.hid hown1; have HS1 := Lib.hid hst1; clear hown1 hst1 hgl)
              go_roundw
              case rel => exact ⟨m + 1, by omega, by push_cast; rfl, by rw [mks_succ]; exact HT.out.step (by decide) HO1.out HS1.out⟩
              case measure => simp [intOf]; omega
            · obtain rfl : m = 8 := by omega
              obtain ⟨gx, cx, rfl, _, _⟩ := own_shape htw.rx (by omega)
              clear htw
              go_wp2_with (at_builtin; go_loud (refine wpList_append_own _ rfl (.tmp 62) (.tmp 64) 66 rfl w.heap.size 23 i1 (.slice none 0 0) 1 24 undCk hi1 hy0 hy1 hy2 rfl (by decide) _ 0 [] rfl (World.ownsRow_nil _ _ _ _) ⟨wr.heap.size, 0, none⟩ 1 1 [.slice (some ⟨gx, 0, none⟩) (n + 8) cx] rfl rfl (news_alloc wr [.slice (some ⟨gx, 0, none⟩) (n + 8) cx] 23) (by simp [Value.oneCell']) (by unfold maxLen; omega) (by omega) (by simp; omega) ?_); intro v4 w4 hown4 hgrow4 _; have HO4 := Lib.hid hown4; have HG4 := Lib.hid hgrow4; clear hown4 hgrow4)
              go_roundw
              case rel => exact ⟨1, .inr rfl, rfl, .inr ⟨rfl, _, HO4.out, HT.out.fresh (grown_alloc HG4.out) (fun k hk => by cases hk)⟩⟩
              case measure => simp [intOf]
        · have cv := HCV.out wr htwo.oth
          obtain ⟨gl, cl, rfl, _, _⟩ := own_shape hrl (by decide)
          have cl1 : wr.cell? ⟨gl, 0, none⟩ = some x := hrl.cellAt 0 (by decide)
          obtain ⟨gx, cx, rfl, _, _⟩ := own_shape htwo.rx (by omega)
          have HV := Lib.hid htwo.rv
          have HX := Lib.hid htwo.rx
          have HOT := Lib.hid htwo.oth
          clear hrl htwo
          go_wp2_with fail
          go_loopw [9] (fun i w' => ∃ i' : Int, (i' = 0 ∨ i' = 1) ∧ i = .int .i64 i' ∧ wr = w') (fun i _ => 1 - (intOf i).toNat)
          case atStart => exact ⟨0, .inl rfl, rfl, rfl⟩
          case round =>
            obtain ⟨i', hi', rfl, hw⟩ := hrel
            subst hw
            by_cases hi0' : i' = 0
            · subst hi0'
              go_wp2_with fail
              go_loopw [11] (fun k w' => ∃ k' : Nat, k' ≤ n ∧ k = .int .i64 k' ∧ wr = w') (fun k _ => n - (intOf k).toNat)
              case atStart => exact ⟨0, Nat.zero_le _, rfl, rfl⟩
              case round =>
                obtain ⟨k, hk, rfl, hw⟩ := hrel
                subst hw
                by_cases hlk : k < n
                · obtain ⟨gv, cw, hv1, _, _⟩ := own_shape HV.out (by omega)
                  injection hv1 with hb1 _ hb2
                  subst hb1 hb2
                  have ha2 : wr.cell? ⟨gv, k * 4 + 2, none⟩ = some (.int .i64 (k : Int)) := (HV.out.cellAt (k * 4 + 2) (by omega)).trans (mks_get (f := mCk) (s := 4) (fun _ => rfl) (n := n) (k := k) (i := 2) hlk (by decide))
                  have hb2 : wr.cell? ⟨gx, k * 4 + 2, none⟩ = some (.int .i64 (k : Int)) := (HX.out.cellAt (k * 4 + 2) (by omega)).trans ((List.getElem?_append_left (by rw [mks_len (s := 4) (fun _ => rfl)]; omega)).trans (mks_get (f := mCk) (s := 4) (fun _ => rfl) (n := n) (k := k) (i := 2) hlk (by decide)))
                  have j2 : (0 : Int) ≤ (k : Int) ∧ (k : Int) < (n : Int) := by omega
                  have j3 : (0 : Int) ≤ (k : Int) ∧ (k : Int) < ((n + 8 : Nat) : Int) := by omega
                  go_wp2
                  go_roundw
                  case rel => exact ⟨k + 1, by omega, by push_cast; rfl, trivial⟩
                  case measure => simp [intOf]; omega
                · obtain rfl : k = n := by omega
                  go_wp2_with fail
                  go_loopw [12] (fun j w' => ∃ k' : Nat, k' ≤ 8 ∧ j = .int .i64 k' ∧ wr = w') (fun j _ => 8 - (intOf j).toNat)
                  case atStart => exact ⟨0, Nat.zero_le _, rfl, rfl⟩
                  case round =>
                    obtain ⟨q, hq, rfl, hw⟩ := hrel
                    subst hw
                    by_cases hlq : q < 8
                    · have hd2 : wr.cell? ⟨gx, (k + q) * 4 + 2, none⟩ = some (.int .i64 (-1000 + (q : Int))) := (HX.out.cellAt ((k + q) * 4 + 2) (by omega)).trans ((List.getElem?_append_right (by rw [mks_len (s := 4) (fun _ => rfl)]; omega)).trans (by rw [mks_len (s := 4) (fun _ => rfl), show (k + q) * 4 + 2 - k * 4 = q * 4 + 2 by omega]; exact mks_get (f := tCk) (s := 4) (fun _ => rfl) (n := 8) (k := q) (i := 2) hlq (by decide)))
                      have j2 : (0 : Int) ≤ (k : Int) + (q : Int) ∧ (k : Int) + (q : Int) < ((k + 8 : Nat) : Int) := by omega
                      go_wp2
                      go_roundw
                      case rel => exact ⟨q + 1, by omega, by push_cast; rfl, trivial⟩
                      case measure => simp [intOf]; omega
                    · obtain rfl : q = 8 := by omega
                      go_wp2
                      go_roundw
                      case rel => exact ⟨1, .inr rfl, rfl, trivial⟩
                      case measure => simp [intOf]
            · obtain rfl : i' = 1 := by omega
              go_wp2
              go_ret
              exact ⟨rfl, HOT.out⟩
end Go.Proofs.YtepjpdhmjchakaaGreatDoor
