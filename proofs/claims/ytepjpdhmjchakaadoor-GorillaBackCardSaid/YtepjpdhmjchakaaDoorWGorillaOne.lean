/- The walk of GorillaOne. Condition: the library's table of trailing noughts (TabW). -/
import Derived.Test.YtepjpdhmjchakaaDoorGzEnc
import Derived.Test.YtepjpdhmjchakaaDoorSameCh
import Derived.Test.YtepjpdhmjchakaaDoorSameSm
import Derived.Test.YtepjpdhmjchakaaDoorGzKn
import Derived.Test.YtepjpdhmjchakaaDoorGz9
namespace Go.Proofs.YtepjpdhmjchakaaDoor.gorillaOne
open Go.RowKit Go.Proofs.YtepjpdhmjchakaaDoor
set_option linter.unusedVariables false

/-- rising, with what it gives as a slice that is read. -/
theorem rising_sl (w : World) (ao : Option Addr) (cap : Nat) (l : List Gz.Smp) (h : Sms w.heap.size w ao cap l) :
    Calls Tryd.prog 16 #[.slice ao l.length cap] w fun e w' => ∃ ao' cap', e = .returned (.slice ao' (Gz.rise l).length cap') ∧ Sms w'.heap.size w' ao' cap' (Gz.rise l) ∧ Below w.heap.size w w' := by
  refine (rising_any w ao cap l h).mono ?_
  rintro e w' ⟨v, rfl, ho, hb⟩
  obtain ⟨hg, hn⟩ := Gz.rise_good (l := l) (fun s hs => (h.fits s hs).2)
  obtain ⟨ao', cap', rfl, hs⟩ := Sms.owns ho (by unfold maxLen; omega) (fun s hs => by have := hg.far s hs; unfold Gz.far at this; omega)
  exact ⟨ao', cap', rfl, hs, hb⟩
/-- Encode, with what it gives as a slice that is read. -/
theorem encode_sl (w : World) (ao : Option Addr) (cap : Nat) (l : List Gz.Smp) (h : Sms w.heap.size w ao cap l) (hg : Gz.Good l) (hn : l.length ≤ 2000) (hT : TabW w) :
    Calls Tryd.prog 17 #[.slice ao l.length cap] w fun e w' => ∃ ao' cap', e = .returned (.tuple #[.slice ao' ((Gz.cut l).map Ck.i).length cap', .int .u16 0]) ∧ Chs w'.heap.size w' ao' cap' ((Gz.cut l).map Ck.i) ∧ Below w.heap.size w w' := by
  refine (encode_any w ao cap l h hg hn hT).mono ?_
  rintro e w' ⟨v, us, rfl, hr, hb⟩
  have hm : (Gz.cut l).length ≤ maxLen := by
    obtain ⟨_, ⟨_, h0⟩ | ⟨g, c, cur, _, _, _, h1, h2, _⟩⟩ := hr.row
    · omega
    · omega
  obtain ⟨ao', cap', rfl, hs⟩ := Chs.owns hr hm (cut_small hg)
  exact ⟨ao', cap', by rw [List.length_map], hs, hb⟩

set_option maxHeartbeats 4000000 in
set_option maxRecDepth 100000 in
theorem walk (ao ao' : Option Addr) (cap cap' : Nat) (l m : List Gz.Smp) (W : World) (h0 : Sms W.heap.size W ao cap l) (h1 : Sms W.heap.size W ao' cap' m) (hT : TabW W) :
    Calls Tryd.prog 4 #[.slice ao l.length cap, .slice ao' m.length cap'] W fun e W' => e = .returned (.bool true) ∧ Below W.heap.size W W' := by
  have hlb : 1 < W.heap.size := block_lt_of_cell (hT 0 (by omega))
  obtain ⟨gl, nl⟩ := Gz.rise_good (l := l) (fun s hs => (h0.fits s hs).2)
  obtain ⟨gm, nm⟩ := Gz.rise_good (l := m) (fun s hs => (h1.fits s hs).2)
  have H0 := Lib.hid h0
  have H1 := Lib.hid h1
  have HT := Lib.hid hT
  have HGL := Lib.hid gl
  have HGM := Lib.hid gm
  have HLAW := Lib.hid (show (Gz.cut (Gz.rise l)).map Ck.i = (Gz.cut (Gz.rise m)).map Ck.i ↔ Gz.rise l = Gz.rise m from ⟨fun h => Gz.cut_inj gl gm (map_inj h), fun h => by rw [h]⟩)
  clear h0 h1 hT gl gm
  go_enter Tryd.func4, Tryd.ntmps4
  go_wp2_with fail
  refine Calls.mono (by exact rising_sl W ao cap l H0.out) ?_
  rintro e w1 ⟨a1, c1, rfl, hs1, hb1⟩
  generalize Gz.rise l = R1 at *
  have HS1 := Lib.hid hs1
  have HB1 := Lib.hid hb1
  clear hs1 hb1
  go_wp2_with fail
  refine Calls.mono (by exact rising_sl w1 ao' cap' m ((H1.out.below HB1.out (Nat.le_refl _)).mono HB1.out.size)) ?_
  rintro e w2 ⟨a2, c2, rfl, hs2, hb2⟩
  generalize Gz.rise m = R2 at *
  have HS1' := Lib.hid (HS1.out.below hb2 (Nat.le_refl _))
  have HS2 := Lib.hid hs2
  have HB2 := Lib.hid (HB1.out.trans (hb2.mono HB1.out.size))
  have hz2 := hb2.size
  clear hs2 hb2 HS1
  go_wp2_with fail
  refine Calls.mono (by exact encode_sl w2 a1 c1 R1 (HS1'.out.mono hz2) HGL.out nl (HT.out.below HB2.out hlb)) ?_
  rintro e w3 ⟨a3, c3, rfl, hs3, hb3⟩
  generalize (Gz.cut R1).map Ck.i = X1 at *
  have HS1 := Lib.hid (HS1'.out.below hb3 hz2)
  have HS2' := Lib.hid (HS2.out.below hb3 (Nat.le_refl _))
  have HC3 := Lib.hid hs3
  have HB3 := Lib.hid (HB2.out.trans (hb3.mono HB2.out.size))
  have hz3 := hb3.size
  clear hs3 hb3 HS1' HS2
  go_wp2_with fail
  refine Calls.mono (by exact encode_sl w3 a2 c2 R2 (HS2'.out.mono hz3) HGM.out nm (HT.out.below HB3.out hlb)) ?_
  rintro e w4 ⟨a4, c4, rfl, hs4, hb4⟩
  generalize (Gz.cut R2).map Ck.i = X2 at *
  have HS1' := Lib.hid (HS1.out.below hb4 (by omega))
  have HS2 := Lib.hid (HS2'.out.below hb4 hz3)
  have HC3' := Lib.hid (HC3.out.below hb4 (Nat.le_refl _))
  have HC4 := Lib.hid hs4
  have HB4 := Lib.hid (HB3.out.trans (hb4.mono HB3.out.size))
  have hz4 := hb4.size
  clear hs4 hb4 HS1 HS2' HC3
  go_wp2_with fail
  refine Calls.mono (by exact gzKnown_any w4 (HT.out.below HB4.out hlb)) ?_
  rintro e w5 ⟨rfl, hb5⟩
  have HS1 := Lib.hid (HS1'.out.below hb5 (by omega))
  have HS2' := Lib.hid (HS2.out.below hb5 (by omega))
  have HC3 := Lib.hid (HC3'.out.below hb5 hz4)
  have HC4' := Lib.hid (HC4.out.below hb5 (Nat.le_refl _))
  have HB5 := Lib.hid (HB4.out.trans (hb5.mono HB4.out.size))
  have hz5 := hb5.size
  clear hb5 HS1' HS2 HC3' HC4
  go_wp2_with fail
  refine Calls.mono (by exact sameCh_any w3.heap.size w4.heap.size w5 a3 a4 c3 c4 X1 X2 HC3.out HC4'.out) ?_
  rintro e w6 ⟨b6, rfl, hb6, n6, rfl⟩
  have HS1' := Lib.hid (HS1.out.below (drewN_b w5 n6) (by omega))
  have HS2 := Lib.hid (HS2'.out.below (drewN_b w5 n6) (by omega))
  clear HS1 HS2' HC3 HC4'
  go_wp2_with fail
  refine Calls.mono (by exact sameSm_any w1.heap.size w2.heap.size (w5.drewN n6) a1 a2 c1 c2 R1 R2 HS1'.out HS2.out) ?_
  rintro e w7 ⟨b7, rfl, hb7, n7, rfl⟩
  obtain rfl : b6 = b7 := by
    rcases b6 with _ | _ <;> rcases b7 with _ | _
    · rfl
    · exact hb6.2 (HLAW.out.2 (hb7.1 rfl))
    · exact (hb7.2 (HLAW.out.1 (hb6.1 rfl))).symm
    · rfl
  clear HS1' HS2 hb6 hb7
  go_wp2_with fail
  go_ret
  exact ⟨by simp, HB5.out.trans ((drewN_b _ _).mono HB5.out.size)⟩
end Go.Proofs.YtepjpdhmjchakaaDoor.gorillaOne
