import Derived.Test.YtepjpdhmjchakaaGreatDoorP13
import Derived.Test.YtepjpdhmjchakaaGreatDoorChecked
/- The book's rows of Bytes are their owner's: marks, room behind, and a look. -/
namespace Go.Proofs.YtepjpdhmjchakaaGreatDoor
open Go.RowKit

theorem undS : Tryz.prog.underlying 40 = some (.slice 24) := by kernel_rfl
theorem infoB : (Tryz.prog.info? 24).map (fun i => (i.zero, i.size, i.bytes)) = some (some (.slice none 0 0), 1, 24) := by kernel_rfl
def pB (i k : Nat) : Value := .int .u8 (IntKind.u8.wrap ((i : Int) * 97 + (k : Int) * 13))
def tB (i k : Nat) : Value := .int .u8 (IntKind.u8.wrap ((-1 - (i : Int)) * 97 + (k : Int) * 13))

set_option maxHeartbeats 4000000 in
set_option maxRecDepth 100000 in
theorem ownBytes_any (w : World) (base : Nat) (vb : Value) (vs : List Value) (ln : Nat → Nat) (h : Bk 24 5 w w base vb vs ln (fun _ _ => True)) (hap : Apt vs) (hln : ∀ j, ln j ≤ 1099511627776) (hN : vs.length ≤ 1000000000) (hb : base ≤ w.heap.size) :
    Calls Tryz.prog 34 #[vb] w fun e w' => e = .returned (.bool true) ∧ Oth vs w w' := by
  obtain ⟨i0, hi0, hz0, hz1, hz2⟩ := info_parts info5
  obtain ⟨i1, hi1, hy0, hy1, hy2⟩ := info_parts infoB
  obtain ⟨a0, cap0, rfl⟩ := own_slice h.row
  have H0 := Lib.hid h
  have HAP := Lib.hid hap
  clear h hap
  go_enter Tryz.func34, Tryz.ntmps34
  go_wp2
  go_loopw [3] (fun i wr => ∃ i' : Nat, i' ≤ vs.length ∧ i = .int .i64 i' ∧ Bk 24 5 w wr base (.slice a0 vs.length cap0) vs ln (upTo pB ln i' 0)) (fun i _ => vs.length - (intOf i).toNat)
  case atStart => exact ⟨0, Nat.zero_le _, rfl, H0.out.weak (fun j xs _ _ => upTo_zero _ _ _ _)⟩
  case round =>
    obtain ⟨i, hi, rfl, hbk⟩ := hrel
    have HBK := Lib.hid hbk
    clear hbk
    by_cases hlt : i < vs.length
    · obtain ⟨v, hv⟩ : ∃ v, vs[i]? = some v := ⟨_, List.getElem?_eq_getElem hlt⟩
      have HV := Lib.hid hv
      clear hv
      have hlni := hln i
      have j1 : (0 : Int) ≤ (i : Int) ∧ (i : Int) < (vs.length : Int) := by omega
      go_wp2_with fail
      go_loopw [4] (fun k wr => ∃ k' : Nat, k' ≤ ln i ∧ k = .int .i64 k' ∧ Bk 24 5 w wr base (.slice a0 vs.length cap0) vs ln (upTo pB ln i k')) (fun k _ => ln i - (intOf k).toNat)
      case atStart => exact ⟨0, Nat.zero_le _, rfl, HBK.out⟩
      case round =>
        obtain ⟨k, hk, rfl, hbk⟩ := hrel
        obtain ⟨g0, c0, hv0, _, _⟩ := own_shape hbk.row (by omega)
        injection hv0 with ha0 _ hc0
        subst ha0 hc0
        have hc1 : wr.cell? ⟨g0, i, none⟩ = some v := (hbk.row.cellAt i (by omega)).trans HV.out
        obtain ⟨xs, hxs, hup⟩ := hbk.rows i v HV.out
        by_cases hlk : k < ln i
        · obtain ⟨g, cap, rfl, _, _⟩ := own_shape hxs (by omega)
          obtain ⟨u0, hc2⟩ : ∃ u0, wr.cell? ⟨g, k, none⟩ = some u0 := ⟨_, (hxs.cellAt k (by omega)).trans (List.getElem?_eq_getElem (by have := hxs.1; omega))⟩
          have hf2 := hxs.frozenAt k
          have j2 : (0 : Int) ≤ (k : Int) ∧ (k : Int) < ((ln i : Nat) : Int) := by omega
          have HBK2 := Lib.hid hbk
          clear hbk hxs hup
          go_wp2
          go_roundw
          case rel => exact ⟨k + 1, by omega, by push_cast; rfl, HBK2.out.store (by decide) HAP.out HV.out (fun xs hx hl => upTo_set hx hl hlk) (fun j xs hj hx => upTo_other hx hj)⟩
          case measure => simp [intOf]; omega
        · obtain rfl : k = ln i := by omega
          obtain ⟨ao, cap, rfl⟩ := own_slice hxs
          have HBK2 := Lib.hid hbk
          clear hbk hxs hup
          go_wp2
          go_roundw
          case rel => exact ⟨i + 1, by omega, by push_cast; rfl, HBK2.out.weak (fun j xs hl hx => upTo_next hx hl)⟩
          case measure => simp [intOf]; omega
    · obtain rfl : i = vs.length := by omega
      have hbk2 : Bk 24 5 w wr base (.slice a0 vs.length cap0) vs ln (fun j xs => j < vs.length → xs = marks pB j (ln j)) := HBK.out.weak (fun j xs _ hx => hx.1)
      have hbk3 : Bk 24 5 w wr base (.slice a0 vs.length cap0) vs ln (fun j xs => xs = marks pB j (ln j)) :=
        ⟨hbk2.row, fun j v hv => by obtain ⟨xs, k1, k2⟩ := hbk2.rows j v hv; exact ⟨xs, k1, k2 (List.getElem?_eq_some_iff.1 hv).1⟩, hbk2.oth, hbk2.lb, hbk2.lv⟩
      have HB3 := Lib.hid hbk3
      clear hbk2 hbk3 HBK
      go_wp2_with fail
      go_loopw [5, 6] (fun lv i wr => ∃ (i' : Nat) (ys : List Value), i' ≤ vs.length ∧ i = .int .i64 i' ∧ Bk 24 5 w wr base (.slice a0 vs.length cap0) vs ln (fun j xs => xs = marks pB j (ln j)) ∧ Lg 24 5 w wr base vs ln pB tB lv i' ys ∧ (∀ y ∈ ys, ∀ k, y.ownBlock = some k → k < wr.heap.size)) (fun _ i _ => vs.length - (intOf i).toNat)
      case atStart => exact ⟨0, [], Nat.zero_le _, rfl, HB3.out, Lg.nil _ _, by simp⟩
      case round =>
        obtain ⟨i, ys, hi, rfl, hbk, hlg, hys⟩ := hrel
        clear HB3
        have HBK := Lib.hid hbk
        have HLG := Lib.hid hlg
        have HYS := Lib.hid hys
        obtain ⟨lo, lc, hlv⟩ := own_slice hlg.row
        subst hlv
        clear hbk hlg hys
        by_cases hlt : i < vs.length
        · obtain ⟨v, hv⟩ : ∃ v, vs[i]? = some v := ⟨_, List.getElem?_eq_getElem hlt⟩
          obtain ⟨g0, c0, hv0, _, _⟩ := own_shape HBK.out.row (by omega)
          injection hv0 with ha0 _ hc0
          subst ha0 hc0
          have hc1 : wr.cell? ⟨g0, i, none⟩ = some v := (HBK.out.row.cellAt i (by omega)).trans hv
          obtain ⟨xs, hxs, hup⟩ := HBK.out.rows i v hv
          subst hup
          have HXS := Lib.hid hxs
          have HV := Lib.hid hv
          have hlni := hln i
          have j1 : (0 : Int) ≤ (i : Int) ∧ (i : Int) < (vs.length : Int) := by omega
          obtain ⟨Wi, hWi⟩ : ∃ Wi, wr.heap.size = Wi := ⟨_, rfl⟩
          have hWi0 : w.heap.size ≤ Wi := by rw [← hWi]; exact HBK.out.oth.size
          have HWi := Lib.hid hWi
          clear hxs hv hWi
          go_wp2_with fail
          go_loopw [7, 8] (fun x m w' => ∃ m' : Nat, m' ≤ 16 ∧ m = .int .i64 m' ∧ Bk 24 5 w w' base (.slice (some ⟨g0, 0, none⟩) vs.length cap0) vs ln (fun j xs => xs = marks pB j (ln j)) ∧ Lg 24 5 w w' base vs ln pB tB (.slice lo i lc) i ys ∧
            w'.ownsRow base 5 1 x (ln i + m') (marks pB i (ln i) ++ marks tB i m') ∧ (x.ownBlock = v.ownBlock ∨ ∀ k, x.ownBlock = some k → Wi ≤ k) ∧ Wi ≤ w'.heap.size) (fun _ m _ => 16 - (intOf m).toNat)
          case atStart => exact ⟨0, by omega, rfl, HBK.out, HLG.out, by simpa [marks] using HXS.out, .inl rfl, Nat.le_of_eq HWi.out.symm⟩
          case round =>
            obtain ⟨m, hm, rfl, hbk, hlg, hx, hxb, hws⟩ := hrel
            have hys : ∀ y ∈ ys, ∀ k, y.ownBlock = some k → k < Wi := fun y hy k hk => by have := HYS.out y hy k hk; rw [HWi.out] at this; exact this
            have HB := Lib.hid hbk
            have HL := Lib.hid hlg
            have HX := Lib.hid hx
            have HXB := Lib.hid hxb
            have HY := Lib.hid hys
            have hsz := hbk.oth.size
            by_cases hm16 : m < 16
            · clear hbk hlg hx hxb hys
              go_wp2_with (at_builtin; refine wpList_append_stay _ rfl (.tmp 54) (.tmp 62) 24 rfl base 5 i0 (.int .u8 0) 1 Tryz.underlying24 hi0 hz0 hz1 hz2 rfl _ (ln i + m) _ rfl (HX.out.alloc _) ⟨wr.heap.size, 0, none⟩ 1 (tB i m) rfl (news_alloc wr [tB i m] 5) rfl (by unfold maxLen; omega) (by omega) (by simp; omega) ?_; intro g cap w1 hown1 hst1 hgl; have HO1 := Lib.hid hown1; have HS1 := Lib.hid hst1; clear hown1 hst1 hgl)
              go_roundw
              case rel =>
                obtain ⟨q1, q2, q3, q4⟩ := stay_step (by decide) HAP.out HB.out HL.out HV.out HX.out HXB.out HY.out hws hWi0 HO1.out HS1.out
                refine ⟨m + 1, by omega, by push_cast; rfl, q1, q2, ?_, q3, q4⟩
                rw [marks_succ, ← List.append_assoc]
                exact HO1.out
              case measure => simp [intOf]; omega
            · obtain rfl : m = 16 := by omega
              obtain ⟨gx, cx, rfl, _, hgx⟩ := own_shape hx (by omega)
              clear hbk hlg hx hxb hys
              go_wp2_with (at_builtin; refine wpList_append_stay _ rfl (.tmp 64) (.tmp 66) 40 rfl w.heap.size 24 i1 (.slice none 0 0) 24 undS hi1 hy0 hy1 hy2 rfl _ i _ rfl (HL.out.row.alloc _) ⟨wr.heap.size, 0, none⟩ 1 (.slice (some ⟨gx, 0, none⟩) (ln i + 16) cx) rfl (news_alloc wr [.slice (some ⟨gx, 0, none⟩) (ln i + 16) cx] 24) rfl (by unfold maxLen; omega) (by omega) (by simp; omega) ?_; intro g cap w1 hown1 hst1 hgl; have HO1 := Lib.hid hown1; have HS1 := Lib.hid hst1; have HGL := Lib.hid hgl; clear hown1 hst1 hgl)
              go_roundw
              case rel =>
                have hgr := grown_alloc HS1.out.grown
                refine ⟨i + 1, ys ++ [.slice (some ⟨gx, 0, none⟩) (ln i + 16) cx], by omega, by push_cast; rfl, HB.out.fresh (by decide) hgr (fun k hk => (HL.out.row.lt k hk).1), HL.out.snoc (by decide) HO1.out hgr HX.out HV.out (HXB.out.imp id (fun h k hk => Nat.le_trans hWi0 (h k hk))), ?_⟩
                intro y hy k hk
                have hs2 := hgr.size
                rcases List.mem_append.1 hy with hy | hy
                · have := HY.out y hy k hk
                  omega
                · simp at hy
                  subst hy
                  injection hk with hk
                  have : gx = k := hk
                  omega
              case measure => simp [intOf]; omega
        · obtain rfl : i = vs.length := by omega
          obtain ⟨w3, hw3⟩ : ∃ w3, wr = w3 := ⟨_, rfl⟩
          subst hw3
          go_wp2_with fail
          go_loopw [9] (fun i w' => ∃ i' : Nat, i' ≤ vs.length ∧ i = .int .i64 i' ∧ wr = w') (fun i _ => vs.length - (intOf i).toNat)
          case atStart => exact ⟨0, Nat.zero_le _, rfl, rfl⟩
          case round =>
            obtain ⟨i, hi, rfl, hw⟩ := hrel
            subst hw
            by_cases hlt : i < vs.length
            · obtain ⟨v, hv⟩ : ∃ v, vs[i]? = some v := ⟨_, List.getElem?_eq_getElem hlt⟩
              obtain ⟨y, hy⟩ : ∃ y, ys[i]? = some y := ⟨_, List.getElem?_eq_getElem (by have := HLG.out.len; omega)⟩
              obtain ⟨g0, c0, hv0, _, _⟩ := own_shape HBK.out.row (by omega)
              injection hv0 with ha0 _ hc0
              subst ha0 hc0
              obtain ⟨gl, cl, hl0, _, _⟩ := own_shape HLG.out.row (by omega)
              injection hl0 with ha1 _ hc1
              subst ha1 hc1
              have hc1 : wr.cell? ⟨g0, i, none⟩ = some v := (HBK.out.row.cellAt i (by omega)).trans hv
              have hc2 : wr.cell? ⟨gl, i, none⟩ = some y := (HLG.out.row.cellAt i (by omega)).trans hy
              obtain ⟨xs, hxs, hup⟩ := HBK.out.rows i v hv
              subst hup
              obtain ⟨hyr, _⟩ := HLG.out.rows i y v hy hv
              obtain ⟨av, cv, rfl⟩ := own_slice hxs
              obtain ⟨gy, cy, rfl, _, _⟩ := own_shape hyr (by omega)
              have HXS := Lib.hid hxs
              have HYR := Lib.hid hyr
              have hlni := hln i
              have j1 : (0 : Int) ≤ (i : Int) ∧ (i : Int) < (vs.length : Int) := by omega
              clear hxs hyr hv hy
              go_wp2_with fail
              go_loopw [11] (fun k w' => ∃ k' : Nat, k' ≤ ln i ∧ k = .int .i64 k' ∧ wr = w') (fun k _ => ln i - (intOf k).toNat)
              case atStart => exact ⟨0, Nat.zero_le _, rfl, rfl⟩
              case round =>
                obtain ⟨k, hk, rfl, hw⟩ := hrel
                subst hw
                by_cases hlk : k < ln i
                · obtain ⟨gv, cv', hv1, _, _⟩ := own_shape HXS.out (by omega)
                  injection hv1 with hb1 _ hb2
                  subst hb1 hb2
                  have hd1 : wr.cell? ⟨gv, k, none⟩ = some (pB i k) := (HXS.out.cellAt k (by omega)).trans (marks_get _ _ _ _ hlk)
                  have hd2 : wr.cell? ⟨gy, k, none⟩ = some (pB i k) := (HYR.out.cellAt k (by omega)).trans (by rw [List.getElem?_append_left (by rw [marks_len]; exact hlk)]; exact marks_get _ _ _ _ hlk)
                  unfold pB at hd1 hd2
                  have j2 : (0 : Int) ≤ (k : Int) ∧ (k : Int) < ((ln i : Nat) : Int) := by omega
                  go_wp2
                  go_roundw
                  case rel => exact ⟨k + 1, by omega, by push_cast; rfl, trivial⟩
                  case measure => simp [intOf]; omega
                · obtain rfl : k = ln i := by omega
                  go_wp2_with fail
                  go_loopw [12] (fun k w' => ∃ k' : Nat, k' ≤ 16 ∧ k = .int .i64 k' ∧ wr = w') (fun k _ => 16 - (intOf k).toNat)
                  case atStart => exact ⟨0, Nat.zero_le _, rfl, rfl⟩
                  case round =>
                    obtain ⟨k, hk, rfl, hw⟩ := hrel
                    subst hw
                    by_cases hlk : k < 16
                    · have hd1 : wr.cell? ⟨gy, ln i + k, none⟩ = some (tB i k) := (HYR.out.cellAt (ln i + k) (by omega)).trans (by rw [List.getElem?_append_right (by rw [marks_len]; omega), marks_len, Nat.add_sub_cancel_left]; exact marks_get _ _ _ _ hlk)
                      unfold tB at hd1
                      have j2 : (0 : Int) ≤ (ln i : Int) + (k : Int) ∧ (ln i : Int) + (k : Int) < ((ln i + 16 : Nat) : Int) := by omega
                      go_wp2
                      go_roundw
                      case rel => exact ⟨k + 1, by omega, by push_cast; rfl, trivial⟩
                      case measure => simp [intOf]; omega
                    · obtain rfl : k = 16 := by omega
                      go_wp2
                      go_roundw
                      case rel => exact ⟨i + 1, by omega, by push_cast; rfl, trivial⟩
                      case measure => simp [intOf]; omega
            · obtain rfl : i = vs.length := by omega
              go_wp2
              go_ret
              exact ⟨rfl, HBK.out.oth⟩
end Go.Proofs.YtepjpdhmjchakaaGreatDoor
