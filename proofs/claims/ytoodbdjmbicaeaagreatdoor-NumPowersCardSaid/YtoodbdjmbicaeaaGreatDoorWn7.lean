/- Whole numbers of the document's answer: by a power of two, downwards. No condition. -/
import Derived.Test.YtoodbdjmbicaeaaGreatDoorWn6
namespace Go.Proofs.YtoodbdjmbicaeaaGreatDoor
open Go.RowKit
set_option maxRecDepth 8000
set_option maxHeartbeats 1000000
set_option linter.unusedVariables false

theorem low_bit {a i : Nat} (h : a % 2 ^ i = 0) (hb : a.testBit i = false) : a % 2 ^ (i + 1) = 0 := by
  rw [Nat.testBit_eq_decide_div_mod_eq] at hb
  have h1 := of_decide_eq_false hb
  rw [Nat.pow_succ, Nat.mod_mul, h]
  have : a / 2 ^ i % 2 = 0 := by omega
  rw [this]
  simp
theorem lost_bit {a i k : Nat} (hi : i < k) (hb : a.testBit i = true) : a % 2 ^ k ≠ 0 := by
  intro h
  have h1 : (a % 2 ^ k).testBit i = true := by rw [Nat.testBit_mod_two_pow, decide_eq_true hi, hb]; rfl
  rw [h, Nat.zero_testBit] at h1
  cases h1
theorem down_word {a i q j r : Nat} (hi : i = q + j) (hr : r < 32) : (wrd a i + wrd a (i + 1) * 4294967296) / 2 ^ r % 4294967296 = wrd (a / (bp q * 2 ^ r)) j := by
  obtain ⟨M, hM⟩ : ∃ M, a / bp i = M := ⟨_, rfl⟩
  have e1 : wrd a i = M % 4294967296 := by unfold wrd; rw [← hM]; rfl
  have e2 : wrd a (i + 1) = M / 4294967296 % 4294967296 := by
    unfold wrd
    rw [← hM, Nat.div_div_eq_div_mul]
    rfl
  have e3 : wrd a i + wrd a (i + 1) * 4294967296 = M % (4294967296 * 4294967296) := by rw [e1, e2, Nat.mod_mul, Nat.mul_comm 4294967296 (M / 4294967296 % 4294967296)]
  have e4 : wrd (a / (bp q * 2 ^ r)) j = M / 2 ^ r % 4294967296 := by
    unfold wrd
    rw [Nat.div_div_eq_div_mul, ← hM, Nat.div_div_eq_div_mul]
    have : bp q * 2 ^ r * 4294967296 ^ j = bp i * 2 ^ r := by
      rw [hi]
      have : bp (q + j) = bp q * 4294967296 ^ j := Nat.pow_add _ _ _
      rw [this, Nat.mul_assoc, Nat.mul_comm (2 ^ r), Nat.mul_assoc]
    rw [this]
  have hd : 2 ^ r * 4294967296 ∣ 4294967296 * 4294967296 := Nat.mul_dvd_mul (Nat.pow_dvd_pow 2 (show r ≤ 32 by omega)) (Nat.dvd_refl _)
  rw [e3, e4, ← Nat.mod_mul_right_div_self, ← Nat.mod_mul_right_div_self, Nat.mod_mod_of_dvd _ hd]

theorem kdown {lo : Nat} {w : World} {v : Value} {a : Nat} (h : Bg lo w v a) (k : Nat) (hk : k ≤ 10000) (sa : (dig a).length ≤ 1000) :
    Calls Tryz.prog 97 #[v, .int .i64 (k : Int)] w fun e w' => ∃ u, e = .returned (.tuple #[u, .bool (a % 2 ^ k != 0)]) ∧ Bg w.heap.size w' u (a / 2 ^ k) ∧ Below w.heap.size w w' := by
  have H := Lib.hid h
  obtain ⟨ao, cap, La, rfl, hL, _, hlt, h0, hp, hcell⟩ := h.open
  rw [← hL] at sa
  have hA : a < bp La := hlt
  have HC := Lib.hid hcell
  have HA := Lib.hid hA
  obtain ⟨base, hbase⟩ : ∃ base, w.heap.size = base := ⟨_, rfl⟩
  have hA2 : a < 2 ^ (32 * La) := by rw [← b_pow]; exact hA
  have HA2 := Lib.hid hA2
  obtain ⟨q, hq⟩ : ∃ q, k / 32 = q := ⟨_, rfl⟩
  obtain ⟨r, hr⟩ : ∃ r, k % 32 = r := ⟨_, rfl⟩
  have e1 : (k : Int) / 32 = (q : Int) := by omega
  have e2 : (k : Int) % 32 = (r : Int) := by omega
  have hr32 : r < 32 := by omega
  have hkq : k = 32 * q + r := by omega
  have hpow := pow_split k q r hkq
  have hk0 : (0 : Int) ≤ (k : Int) := by omega
  obtain ⟨A, hAA⟩ : ∃ A, a / 2 ^ k = A := ⟨_, rfl⟩
  obtain ⟨ls, hls⟩ : ∃ ls, (a % 2 ^ k != 0) = ls := ⟨_, rfl⟩
  have HAA := Lib.hid hAA
  have HLS := Lib.hid hls
  have HPW := Lib.hid hpow
  rw [hbase, hAA, hls]
  have hcv : IntKind.u64.wrap (r : Int) = (r : Int) := by rw [IntKind.wrap_u64]; omega
  clear hL hlt h0 hp hcell hA hA2 hq hr hkq hpow hAA hls h
  go_enter Tryz.func97, Tryz.ntmps97
  go_wp2_with fail
  go_loopw [6, 7] (fun x y wr => ∃ (i : Nat) (l : Bool), x = .bool l ∧ y = .int .i64 (i : Int) ∧ i ≤ k ∧ i ≤ 32 * La ∧ (l = true → a % 2 ^ k ≠ 0) ∧ (l = false → a % 2 ^ i = 0) ∧ wr = w) (fun _ y _ => k + 1 - (intOf y).toNat)
  case atStart => exact ⟨0, false, rfl, rfl, Nat.zero_le _, Nat.zero_le _, (fun h => by cases h), (fun _ => Nat.mod_one a), rfl⟩
  case round =>
    obtain ⟨i, l, rfl, rfl, hik, hiL, hl1, hl2, hw⟩ := hrel
    have hw' := hw.symm
    clear hw
    subst hw'
    have HL1 := Lib.hid hl1
    have HL2 := Lib.hid hl2
    clear hl1 hl2
    by_cases hgo : l = false ∧ i < k ∧ i < 32 * La
    · obtain ⟨rfl, hk1, hk2⟩ := hgo
      have i1 : (i : Int) < (k : Int) := by omega
      have i2 : (i : Int) < 32 * (La : Int) := by omega
      obtain ⟨b, hb⟩ : ∃ b, a.testBit i = b := ⟨_, rfl⟩
      have hn1 : b = true → a % 2 ^ k ≠ 0 := fun h => lost_bit hk1 (hb.trans h)
      have hn2 : b = false → a % 2 ^ (i + 1) = 0 := fun h => low_bit (HL2.out rfl) (hb.trans h)
      have HN1 := Lib.hid hn1
      have HN2 := Lib.hid hn2
      have HB := Lib.hid hb
      clear hn1 hn2 hb
      go_wp2_with (go_at_call 98; refine (kbit H.out i (by omega)).mono ?_; rw [HB.out]; rintro e w1 ⟨rfl, rfl⟩)
      go_roundw
      case rel => exact ⟨i + 1, b, rfl, by push_cast; rfl, by omega, by omega, HN1.out, HN2.out, trivial⟩
      case measure => simp [intOf]; omega
    · have hlv : ls = l := by
        rw [← HLS.out]
        cases l with
        | true => exact bne_iff_ne.2 (HL1.out rfl)
        | false =>
          have h0 := HL2.out rfl
          have h1 : a % 2 ^ k = 0 := by
            by_cases hk2 : i < k
            · have h3 : i = 32 * La := Nat.le_antisymm hiL (Nat.le_of_not_lt fun h => hgo ⟨rfl, hk2, h⟩)
              rw [h3, Nat.mod_eq_of_lt HA2.out] at h0
              rw [h0, Nat.zero_mod]
            · have h3 : i = k := by omega
              rw [← h3]; exact h0
          rw [h1]; rfl
      subst hlv
      have hcond : (¬ (i : Int) < (k : Int)) ∨ ((i : Int) < (k : Int) ∧ ¬ (i : Int) < 32 * (La : Int)) ∨ (ls = true ∧ (i : Int) < (k : Int) ∧ (i : Int) < 32 * (La : Int)) := by
        by_cases h1 : i < k
        · by_cases h2 : i < 32 * La
          · right; right
            refine ⟨?_, by omega, by omega⟩
            cases ls
            · exact absurd ⟨rfl, h1, h2⟩ hgo
            · rfl
          · right; left; exact ⟨by omega, by omega⟩
        · left; omega
      clear hgo HL1 HL2
      have hT : ∀ (wx : World), True := fun _ => trivial
      clear hT
      have hstart := (World.ownsRow_nil (w := w) base 72 1)
      rcases hcond with i1 | ⟨i1, i2⟩ | ⟨hc, i1, i2⟩
      all_goals
        try subst hc
        go_wp2_with fail
        go_loopw [8, 9] (fun u y wx => ∃ (out : List Nat), y = .int .i64 ((q + out.length : Nat) : Int) ∧ OkL out ∧ (out.length = 0 ∨ q + out.length ≤ La) ∧ num out = A % bp out.length ∧ wx.ownsRow base 72 1 u out.length (out.map f32) ∧ Below base w wx) (fun _ y _ => La + 2 - (intOf y).toNat)
        case atStart => exact ⟨[], by simp, (fun x hx => by cases hx), .inl rfl, by simp [num, bp_zero, Nat.mod_one], World.ownsRow_nil _ _ _ _, by rw [← hbase]; exact Below.refl _ _⟩
        case round =>
          obtain ⟨out, rfl, hok, hlen, hnum, hown, hbel⟩ := hrel
          have O := Lib.hid hown
          have OK := Lib.hid hok
          have BL := Lib.hid hbel
          have hbw : base ≤ wr.heap.size := by rw [← hbase]; exact hbel.size
          obtain ⟨j, hj⟩ : ∃ j, out.length = j := ⟨_, rfl⟩
          have HI := Lib.hid hj
          rw [hj] at hnum hlen ⊢
          obtain ⟨i', hi'⟩ : ∃ i', q + j = i' := ⟨_, rfl⟩
          have HN := Lib.hid hnum
          rw [hi']
          have HI' := Lib.hid hi'
          by_cases ha : i' < La
          · have ja : (i' : Int) < (La : Int) := by omega
            have hwa : wrd a i' < 4294967296 := wrd_lt _ _
            have hwb : wrd a (i' + 1) < 4294967296 := wrd_lt _ _
            have hdw := down_word (a := a) (i := i') (q := q) (j := j) (r := r) hi'.symm hr32
            rw [← HPW.out, HAA.out] at hdw
            obtain ⟨x, hx⟩ : ∃ x, wrd a i' = x := ⟨_, rfl⟩
            obtain ⟨z, hz⟩ : ∃ z, wrd a (i' + 1) = z := ⟨_, rfl⟩
            have hzz : La ≤ i' + 1 → z = 0 := fun h => by rw [← hz]; exact wrd_zero (Nat.lt_of_lt_of_le HA.out (bp_le h))
            rw [hx] at hwa
            rw [hz] at hwb
            rw [hx, hz] at hdw
            obtain ⟨d, hd⟩ : ∃ d, wrd A j = d := ⟨_, rfl⟩
            have hdl : d < 4294967296 := by rw [← hd]; exact wrd_lt _ _
            rw [hd] at hdw
            obtain ⟨X, hX⟩ : ∃ X, x + z * 4294967296 = X := ⟨_, rfl⟩
            have hXl : X < 2 ^ 64 := by omega
            rw [hX] at hdw
            obtain ⟨Y, hY⟩ : ∃ Y, X / 2 ^ r = Y := ⟨_, rfl⟩
            have hYl : Y < 2 ^ 64 := by rw [← hY]; exact Nat.lt_of_le_of_lt (Nat.div_le_self _ _) hXl
            have h1 : (X : Int) / 2 ^ r = (Y : Int) := by rw [← hY, Int.natCast_ediv, Int.natCast_pow]; rfl
            rw [hY] at hdw
            have a1 := and32 Y hYl
            rw [hdw] at a1
            have a2 : (d : Int) % 4294967296 = (d : Int) := by omega
            have hfin : num (out ++ [d]) = A % bp (j + 1) := by
              rw [num_one, mod_step, HN.out, hd, hj]; rfl
            have HF := Lib.hid hfin
            obtain ⟨ba, oa, rfl, _, _, hca⟩ := HC.out (by omega)
            have c1 : wr.cell? ⟨ba, oa + i', none⟩ = some (.int .u32 (x : Int)) := (World.cell?_of_block (BL.out.block ba (by omega))).trans (by rw [hca i' ha, hx])
            have HX := Lib.hid hX
            have HZ := Lib.hid hz
            have HCA := Lib.hid hca
            clear hca hown hok hbel hj hi' hx hX hd hdw hY hfin hnum hz
            by_cases hb : i' + 1 < La
            · have jb : (i' : Int) + 1 < (La : Int) := by omega
              have c2 : wr.cell? ⟨ba, oa + (i' + 1), none⟩ = some (.int .u32 (z : Int)) := (World.cell?_of_block (BL.out.block ba (by omega))).trans (by rw [HCA.out (i' + 1) hb, HZ.out])
              have hor : bits .or .u64 (x : Int) ((z : Int) * 4294967296) = (X : Int) := by
                have e : (z : Int) * 4294967296 = ((2 ^ 32 * z : Nat) : Int) := by omega
                rw [e, or64 (by omega) (by omega), orNat (by omega)]
                have := HX.out
                omega
              clear hzz
              go_wp2_with (at_builtin; refine app_w rfl (.tmp 57) (.tmp 65) rfl base _ out [d] rfl (O.out.alloc _) ⟨wr.heap.size, 0, none⟩ 1 rfl (news_alloc wr [f32 d] 72) (by rw [HI.out]; simp; omega) (by simp; omega) ?_; intro v1 w1 hown1 hgrow1; have O1 := Lib.hid hown1; have G1 := Lib.hid hgrow1; clear hown1 hgrow1)
              go_roundw
              case rel =>
                refine ⟨out ++ [d], by rw [List.length_append, HI.out, ← HI'.out]; rfl, OK.out.one hdl, .inr (by rw [List.length_append, HI.out]; simp; have := HI'.out; omega), by rw [List.length_append, HI.out]; exact HF.out, O1.out, ?_⟩
                exact (BL.out.alloc hbw _).grown G1.out (by simp; omega) (fun k hk => own_row O.out k hk)
              case measure => simp [intOf]; omega
            · have jb : ¬ (i' : Int) + 1 < (La : Int) := by omega
              have hz0 := hzz (by omega)
              have hXx : X = x := by have := HX.out; omega
              clear hzz hz0
              subst hXx
              go_wp2_with (at_builtin; refine app_w rfl (.tmp 57) (.tmp 65) rfl base _ out [d] rfl (O.out.alloc _) ⟨wr.heap.size, 0, none⟩ 1 rfl (news_alloc wr [f32 d] 72) (by rw [HI.out]; simp; omega) (by simp; omega) ?_; intro v1 w1 hown1 hgrow1; have O1 := Lib.hid hown1; have G1 := Lib.hid hgrow1; clear hown1 hgrow1)
              go_roundw
              case rel =>
                refine ⟨out ++ [d], by rw [List.length_append, HI.out, ← HI'.out]; rfl, OK.out.one hdl, .inr (by rw [List.length_append, HI.out]; simp; have := HI'.out; omega), by rw [List.length_append, HI.out]; exact HF.out, O1.out, ?_⟩
                exact (BL.out.alloc hbw _).grown G1.out (by simp; omega) (fun k hk => own_row O.out k hk)
              case measure => simp [intOf]; omega
          · have ja : ¬ (i' : Int) < (La : Int) := by omega
            have hfin : num out = A := by
              rw [HN.out]
              refine Nat.mod_eq_of_lt ?_
              rw [← HAA.out, HPW.out]
              rcases hlen with h | h
              · rw [h, bp_zero]
                have h2 : a < bp q * 2 ^ r := Nat.lt_of_lt_of_le HA.out (Nat.le_trans (bp_le (show La ≤ q by omega)) (Nat.le_mul_of_pos_right _ (Nat.two_pow_pos _)))
                rw [Nat.div_eq_of_lt h2]
                exact Nat.zero_lt_one
              · have h2 : La = q + j := by omega
                rw [Nat.div_lt_iff_lt_mul (Nat.mul_pos (bp_pos q) (Nat.two_pow_pos r))]
                have h3 : bp La = bp j * bp q := by rw [h2, Nat.add_comm]; exact Nat.pow_add _ _ _
                have h4 := HA.out
                rw [h3] at h4
                exact Nat.lt_of_lt_of_le h4 (by rw [← Nat.mul_assoc]; exact Nat.le_mul_of_pos_right _ (Nat.two_pow_pos _))
            have HF := Lib.hid hfin
            clear hown hok hbel hj hi' hnum hfin
            go_wp2_with (go_at_call 99; refine (ktrim base wr.heap.size wr _ out (Sl.owns O.out (by rw [HI.out]; omega)) OK.out).mono ?_; rintro e w2 ⟨v2, rfl, h2, rfl⟩)
            go_ret2
            exact ⟨_, rfl, by rw [← HF.out]; exact h2, BL.out⟩
end Go.Proofs.YtoodbdjmbicaeaaGreatDoor
