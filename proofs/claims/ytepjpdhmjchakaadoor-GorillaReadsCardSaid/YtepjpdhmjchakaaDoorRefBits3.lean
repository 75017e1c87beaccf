/- The document's bits, read: NextVarint, NextSigned. -/
import Derived.Test.YtepjpdhmjchakaaDoorRefBits2
namespace Go.Proofs.YtepjpdhmjchakaaDoor
open Go.RowKit
set_option linter.unusedVariables false

/-- What NextVarint says. -/
def XvPost (w : World) (B at_ lo hi : Nat) (v : Value) (L : List Bool) (e : Ending) (w' : World) : Prop :=
  ∃ (x er a : Nat), x < 18446744073709551616 ∧ e = .returned (.tuple #[.int .u64 (x : Int), .int .u16 (er : Int)]) ∧ Xd w' B v a L lo hi ∧ Gro B none w w' ∧
      ((er = 0 ∧ Bt.rv L at_ = .inr (x, a)) ∨ (er ≠ 0 ∧ Bt.rv L at_ = .inl er ∧ x = 0 ∧ a = at_))

set_option maxHeartbeats 2000000 in
set_option maxRecDepth 100000 in
theorem xnextvarint_c {lo hi : Nat} {w : World} {B at_ : Nat} {v : Value} {L : List Bool} (h : Xd w B v at_ L lo hi) :
    Calls Tryd.prog 73 #[.pointer (some ⟨B, 0, none⟩)] w fun e w' => XvPost w B at_ lo hi v L e w' := by
  have HH := Lib.hid h
  obtain ⟨c0, c1, cz⟩ := two_cells h.cells
  clear h
  go_enter Tryd.func73, Tryd.ntmps73
  go_wp2
  go_loopw [5, 6] (fun x i wr => ∃ (k acc a' : Nat), i = .int .i64 k ∧ x = .int .u64 acc ∧ k ≤ 9 ∧ acc < 128 ^ k ∧ Xd wr B v a' L lo hi ∧ Gro B none w wr ∧ Bt.rvg L (10 - k) k a' acc = Bt.rv L at_) (fun _ i _ => 10 - (intOf i).toNat)
  case atStart => exact ⟨0, 0, at_, rfl, rfl, by omega, by omega, HH.out, Gro.refl _ _ _, rfl⟩
  case round =>
    obtain ⟨k, acc, a', rfl, rfl, hk, hacc, hx, hgr, hrv⟩ := hrel
    have HRV := Lib.hid hrv
    have HX := Lib.hid hx
    have HG := Lib.hid hgr
    have HA := Lib.hid hacc
    clear hrv hx hgr hacc c0 c1 cz
    have ek : 10 - k = (9 - k) + 1 := by omega
    have EK := Lib.hid ek
    clear ek
    go_wp2_with fail
    refine Calls.mono (by exact xnext_c HX.out 8 (by decide) _ rfl) ?_
    rintro e w1 ⟨g, a1, er, hgl, rfl, hx1, hg1, hcase⟩
    obtain ⟨d0, d1, dz⟩ := two_cells hx1.cells
    have HX1 := Lib.hid (hx1.at HH.out.le _ rfl)
    have HX2 := Lib.hid hx1
    have HG1 := Lib.hid (HG.out.trans hg1 (Anew.refl _ _))
    have HG2 := Lib.hid ((HG.out.trans hg1 (Anew.refl _ _)).trans (Gro.set B 1 none w1 (.int .i64 (at_ : Int))) (Anew.refl _ _))
    clear hx1 hg1
    rcases hcase with ⟨rfl, hr⟩ | ⟨rfl, hr, rfl, rfl⟩
    · unfold Gz.rdk at hr
      by_cases hU : L.length < a' + 8
      · rw [if_pos hU] at hr; cases hr
      rw [if_neg hU] at hr
      injection hr with hr
      injection hr with hg hae
      subst hae
      have hgl : g < 256 := by
        have h1 := Bt.val_lt ((L.drop a').take 8)
        have h2 : ((L.drop a').take 8).length ≤ 8 := List.length_take_le _ _
        have h3 : 2 ^ ((L.drop a').take 8).length ≤ 2 ^ 8 := Nat.pow_le_pow_right (by omega) h2
        omega
      have hstep : Bt.rv L at_ = if k = 9 ∧ 1 < g then .inl 21 else if g < 128 then (if 0 < k ∧ g = 0 then .inl 21 else .inr (acc + g % 128 * 128 ^ k, a' + 8))
          else Bt.rvg L (9 - k) (k + 1) (a' + 8) (acc + g % 128 * 128 ^ k) := by
        rw [← HRV.out, EK.out, Bt.rvg, if_neg hU, hg]
      have HST := Lib.hid hstep
      clear hstep hg hU
      by_cases h9 : k = 9 ∧ 1 < g
      · rw [if_pos h9] at HST
        obtain ⟨rfl, hg1⟩ := h9
        go_wp2
        go_ret2
        exact ⟨0, 21, at_, by decide, rfl, HX1.out, HG2.out, .inr ⟨by decide, HST.out, rfl, rfl⟩⟩
      · rw [if_neg h9] at HST
        have hk9 : ((((k : Int) == 9) = true ∧ k = 9) ∧ g ≤ 1) ∨ (((k : Int) == 9) = false ∧ k < 9) := by
          by_cases e : k = 9
          · left; exact ⟨⟨by simp [e], e⟩, by omega⟩
          · right; exact ⟨by simp; omega, by omega⟩
        obtain ⟨e3, e4⟩ := or_septet acc g k HA.out (by omega)
        have hx64 : k ≤ 9 → (k = 9 → g ≤ 1) → acc + g % 128 * 128 ^ k < 18446744073709551616 := by
          intro h1 h2
          by_cases e : k = 9
          · subst e
            have := HA.out
            have h3 := h2 rfl
            have : g % 128 ≤ 1 := by omega
            have h4 : g % 128 * 128 ^ 9 ≤ 1 * 128 ^ 9 := Nat.mul_le_mul_right _ this
            omega
          · have h5 : 128 ^ (k + 1) ≤ 128 ^ 9 := Nat.pow_le_pow_right (by decide) (by omega)
            omega
        have hx64 := hx64 hk (by omega)
        generalize acc + g % 128 * 128 ^ k = acc2 at *
        have E4 := Lib.hid e4
        clear h9 e4
        have hgc : (g < 128 ∧ (0 < k ∧ g = 0)) ∨ (g < 128 ∧ ¬ (0 < k ∧ g = 0)) ∨ (¬ g < 128 ∧ k < 9) := by omega
        rcases hgc with ⟨hg2, hg3⟩ | ⟨hg2, hg3⟩ | ⟨hg2, hk8⟩
        · rw [if_pos hg2, if_pos hg3] at HST
          obtain ⟨hg4, hg5⟩ := hg3
          have hg6 : ((g : Int) == 0) = true := by simp [hg5]
          clear hg5
          rcases hk9 with ⟨⟨hk9, hkk⟩, hg1⟩ | ⟨hk9, hkk⟩
          all_goals
            clear hkk
            go_wp2
            go_ret2
            exact ⟨0, 21, at_, by decide, rfl, HX1.out, HG2.out, .inr ⟨by decide, HST.out, rfl, rfl⟩⟩
        · rw [if_pos hg2, if_neg hg3] at HST
          have hg4 : (((k : Int) == 9) = true ∧ 0 < k ∧ g ≠ 0 ∧ g ≤ 1) ∨ (((k : Int) == 9) = false ∧ 0 < k ∧ g ≠ 0) ∨ (((k : Int) == 9) = false ∧ k = 0) := by
            rcases hk9 with ⟨⟨h1, h2⟩, h3⟩ | ⟨h1, h2⟩
            · exact Or.inl ⟨h1, by omega, by omega, by omega⟩
            · by_cases h0 : k = 0
              · exact Or.inr (Or.inr ⟨h1, h0⟩)
              · exact Or.inr (Or.inl ⟨h1, by omega, by omega⟩)
          clear hk9
          have hg7 : (((k : Int) == 9) = true ∧ 0 < k ∧ g ≠ 0 ∧ g ≤ 1) ∨ (((k : Int) == 9) = false ∧ 0 < k ∧ g ≠ 0) ∨ (((k : Int) == 9) = false ∧ k = 0 ∧ bits .or .u64 (acc : Int) ((g : Int) % 128) = (acc2 : Int)) := by
            rcases hg4 with h | h | ⟨h1, h2⟩
            · exact Or.inl h
            · exact Or.inr (Or.inl h)
            · refine Or.inr (Or.inr ⟨h1, h2, ?_⟩)
              subst h2
              rw [← e3, show ((g : Int) % 128 * 2 ^ (7 * 0)) = ((g % 128 : Nat) : Int) from by simp, IntWalk.u64_in _ (by omega)]
              rfl
          clear hg4
          rcases hg7 with ⟨hk9, hg4, hg5, hg6⟩ | ⟨hk9, hg4, hg5⟩ | ⟨hk9, hg4, hg5⟩
          all_goals
            go_wp2
            go_ret2
            exact ⟨acc2, 0, a' + 8, hx64, rfl, HX2.out, HG1.out, .inl ⟨rfl, HST.out⟩⟩
        · rw [if_neg hg2] at HST
          rcases hk9 with ⟨⟨hk9, hkk⟩, hg1⟩ | ⟨hk9, hkk⟩
          · exfalso; omega
          go_wp2
          go_roundw
          case rel =>
            refine ⟨k + 1, acc2, a' + 8, by push_cast; rfl, rfl, by omega, E4.out, HX2.out, HG1.out, ?_⟩
            rw [show 10 - (k + 1) = 9 - k from by omega]; exact HST.out.symm
          case measure => simp [intOf]; omega
    · have hres : Bt.rv L at_ = .inl 20 := by
        unfold Gz.rdk at hr
        by_cases hU : L.length < a1 + 8
        · rw [← HRV.out, EK.out, Bt.rvg, if_pos hU]
        · rw [if_neg hU] at hr; cases hr
      have HRES := Lib.hid hres
      clear hres hr
      go_wp2
      go_ret2
      exact ⟨0, 20, at_, by decide, rfl, HX1.out, HG2.out, .inr ⟨by decide, HRES.out, rfl, rfl⟩⟩

set_option maxRecDepth 100000 in
theorem xnextsigned_c {lo hi : Nat} {w : World} {B at_ : Nat} {v : Value} {L : List Bool} (h : Xd w B v at_ L lo hi) :
    Calls Tryd.prog 71 #[.pointer (some ⟨B, 0, none⟩)] w fun e w' => ∃ (t : Int) (er a : Nat), e = .returned (.tuple #[.int .i64 t, .int .u16 (er : Int)]) ∧ (-9223372036854775808 ≤ t ∧ t ≤ 9223372036854775807) ∧ Xd w' B v a L lo hi ∧ Gro B none w w' ∧
      ((er = 0 ∧ ∃ x, Bt.rv L at_ = .inr (x, a) ∧ t = un x) ∨ (er ≠ 0 ∧ Bt.rv L at_ = .inl er)) := by
  have HH := Lib.hid h
  clear h
  go_enter Tryd.func71, Tryd.ntmps71
  go_wp2_with fail
  refine Calls.mono (by exact xnextvarint_c HH.out) ?_
  rintro e w1 ⟨x, er, a, hx, rfl, hx1, hg1, hcase⟩
  have HX := Lib.hid hx1
  have HG := Lib.hid hg1
  have HC := Lib.hid (show (er = 0 ∧ ∃ y, Bt.rv L at_ = .inr (y, a) ∧ un x = un y) ∨ (er ≠ 0 ∧ Bt.rv L at_ = .inl er) by
    rcases hcase with ⟨h1, h2⟩ | ⟨h1, h2, h3, h4⟩
    · exact .inl ⟨h1, x, h2, rfl⟩
    · exact .inr ⟨h1, h2⟩)
  have hf := xun_fits hx
  clear hx1 hg1 hcase
  rcases (by omega : x % 2 = 0 ∨ x % 2 = 1) with e2 | e2
  · have e5 : un x = ((x / 2 : Nat) : Int) := by unfold un; rw [if_pos e2]
    have g1 : ((x : Int) % 2 == 1) = false := by simp; omega
    have HE := Lib.hid e5
    have HF := Lib.hid hf
    clear e5 e2 hf
    go_wp2
    go_ret2
    exact ⟨un x, er, a, by rw [HE.out]; rfl, HF.out, HX.out, HG.out, HC.out⟩
  · have e5 : un x = -((x / 2 : Nat) : Int) - 1 := by unfold un; rw [if_neg (by omega)]
    have g1 : ((x : Int) % 2 == 1) = true := by simp; omega
    have HE := Lib.hid e5
    have HF := Lib.hid hf
    clear e5 e2 hf
    go_wp2
    go_ret2
    exact ⟨un x, er, a, by rw [HE.out]; rfl, HF.out, HX.out, HG.out, HC.out⟩
end Go.Proofs.YtepjpdhmjchakaaDoor
