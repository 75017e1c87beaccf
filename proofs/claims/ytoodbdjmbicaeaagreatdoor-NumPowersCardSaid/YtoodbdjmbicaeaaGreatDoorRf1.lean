/- The document's rounding. No condition. -/
import Derived.Test.YtoodbdjmbicaeaaGreatDoorWn10
import Derived.Test.YtoodbdjmbicaeaaGreatDoorP2
import Derived.Test.YtoodbdjmbicaeaaGreatDoorP1
import Derived.Deep.CutRange
namespace Go.Proofs.YtoodbdjmbicaeaaGreatDoor
open Go.RowKit
set_option maxRecDepth 60000
set_option maxHeartbeats 2000000
set_option linter.unusedVariables false
set_option linter.unusedSimpArgs false

def sgn (neg : Bool) : Nat := if neg then 2 ^ 63 else 0
/-- What is kept, ahead of the last step. -/
theorem round_parts {n : Nat} {more : Bool} {e s : Int} (hn : n ≠ 0) (hs : s = max ((size n : Int) - 53) (-1074 - e)) (hm : more = true → 54 ≤ size n) :
    ∃ (Q1 : Nat) (up : Bool), rnd (2 * n + more.toNat) (e - 1) = (e + s + 1074).toNat * 2 ^ 52 + (Q1 + up.toNat) ∧ Q1 + up.toNat ≤ 2 ^ 53 ∧ (2 ^ 52 ≤ Q1 + up.toNat ∨ e + s = -1074) ∧ -1074 ≤ e + s ∧
      ((0 < s ∧ Q1 = n / 2 ^ s.toNat ∧ up = upR n s.toNat more) ∨ (s ≤ 0 ∧ Q1 = n * 2 ^ (-s).toNat ∧ up = false)) := by
  obtain ⟨Z, hZ⟩ : ∃ Z, size n = Z := ⟨_, rfl⟩
  have hz1 : n < 2 ^ Z := by rw [← size_le, hZ]; exact Nat.le_refl _
  have hz2 : 2 ^ (Z - 1) ≤ n := by
    refine Nat.le_of_not_lt fun h => ?_
    have := size_le.2 h
    have h0 : 0 < Z := by rw [← hZ]; unfold size; rw [if_neg hn]; omega
    omega
  have h0 : 0 < Z := by rw [← hZ]; unfold size; rw [if_neg hn]; omega
  by_cases hs0 : 0 < s
  · obtain ⟨S, hS⟩ : ∃ S : Nat, s = (S : Int) := ⟨s.toNat, by omega⟩
    have e1 : s.toNat = S := by omega
    refine ⟨n / 2 ^ S, upR n S more, ?_, ?_, ?_, by omega, .inl ⟨hs0, by rw [e1], by rw [e1]⟩⟩
    · exact round_down hn hs hS (by omega)
    · have h1 : n / 2 ^ S < 2 ^ 53 := by
        rw [Nat.div_lt_iff_lt_mul (Nat.two_pow_pos _), ← Nat.pow_add]
        exact Nat.lt_of_lt_of_le hz1 (Nat.pow_le_pow_right (by decide) (by omega))
      have := Bool.toNat_le (upR n S more)
      omega
    · by_cases h2 : s = (Z : Int) - 53
      · left
        have h1 : 2 ^ 52 ≤ n / 2 ^ S := by
          rw [Nat.le_div_iff_mul_le (Nat.two_pow_pos _), ← Nat.pow_add]
          exact Nat.le_trans (Nat.pow_le_pow_right (by decide) (by omega)) hz2
        omega
      · right; omega
  · obtain ⟨S, hS⟩ : ∃ S : Nat, -s = (S : Int) := ⟨(-s).toNat, by omega⟩
    have e1 : (-s).toNat = S := by omega
    have hmf : more = false := by
      cases more
      · rfl
      · have := hm rfl; omega
    subst hmf
    refine ⟨n * 2 ^ S, false, ?_, ?_, ?_, by omega, .inr ⟨by omega, by rw [e1], rfl⟩⟩
    · exact round_up hn hs hS
    · have h1 : n * 2 ^ S < 2 ^ 53 := by
        have h2 : n * 2 ^ S < 2 ^ Z * 2 ^ S := Nat.mul_lt_mul_of_pos_right hz1 (Nat.two_pow_pos _)
        rw [← Nat.pow_add] at h2
        exact Nat.lt_of_lt_of_le h2 (Nat.pow_le_pow_right (by decide) (by omega))
      simp; omega
    · by_cases h2 : s = (Z : Int) - 53
      · left
        have h1 : 2 ^ (Z - 1) * 2 ^ S ≤ n * 2 ^ S := Nat.mul_le_mul_right _ hz2
        rw [← Nat.pow_add] at h1
        have h3 : 2 ^ 52 ≤ 2 ^ (Z - 1 + S) := Nat.pow_le_pow_right (by decide) (by omega)
        simp; omega
      · right; omega
theorem or_sgn (neg : Bool) {x : Nat} (hx : x < 2 ^ 63) : bits .or .u64 ((sgn neg : Nat) : Int) (x : Int) = ((Ieee.double.word neg x : Nat) : Int) := by
  have hs : sgn neg < 2 ^ 64 := by unfold sgn; split <;> omega
  rw [or64 hs (by omega), word_eq]
  unfold sgn
  cases neg
  · simp
  · simp only [if_true]
    have := Nat.two_pow_add_eq_or_of_lt hx 1
    rw [Nat.mul_one] at this
    rw [← this]
theorem or_frac (neg : Bool) {F f : Nat} (hF : F < 2047) (hf : f < 2 ^ 52) : bits .or .u64 ((Ieee.double.word neg (F * 2 ^ 52) : Nat) : Int) (f : Int) = ((Ieee.double.word neg (F * 2 ^ 52 + f) : Nat) : Int) := by
  have hx : F * 2 ^ 52 < 2 ^ 63 := by omega
  have hw : Ieee.double.word neg (F * 2 ^ 52) < 2 ^ 64 := word_lt' hx
  rw [or64 hw (by omega)]
  congr 1
  rw [word_eq, word_eq]
  cases neg
  · simp only [Bool.false_eq_true, if_false]
    have := Nat.two_pow_add_eq_or_of_lt hf F
    rw [Nat.mul_comm F, ← this]
  · simp only [if_true]
    have := Nat.two_pow_add_eq_or_of_lt hf (2 ^ 11 + F)
    have e : 2 ^ 63 + F * 2 ^ 52 = 2 ^ 52 * (2 ^ 11 + F) := by omega
    rw [e, ← this]
    omega

theorem kround {lo : Nat} {w : World} {v : Value} {n : Nat} (neg : Bool) (e : Int) (more : Bool) (h : Bg lo w v n) (sa : (dig n).length ≤ 300) (he : -5000 ≤ e ∧ e ≤ 5000) (hm : more = true → 54 ≤ size n) :
    Calls Tryz.prog 68 #[.bool neg, v, .int .i64 e, .bool more] w fun x w' => x = .returned (wd (Ieee.double.word neg (min (rnd (2 * n + more.toNat) (e - 1)) infR))) ∧ Below w.heap.size w w' := by
  have H := Lib.hid h
  obtain ⟨base, hbase⟩ : ∃ base, w.heap.size = base := ⟨_, rfl⟩
  obtain ⟨ao, cap, L, rfl, hL, hLb, hlt, h0, hp, hcell⟩ := h.open
  by_cases hn : n = 0
  · have hmf : more = false := by
      cases more
      · rfl
      · have := hm rfl; rw [hn] at this; exact absurd this (by decide)
    obtain rfl := h0 hn
    subst hn hmf
    have e1 : rnd (2 * 0 + false.toNat) (e - 1) = 0 := by unfold rnd; rw [if_pos (by simp)]
    rw [e1, Nat.zero_min]
    have hv : Ieee.double.word neg 0 = sgn neg := by rw [word_eq]; rfl
    rw [hv]
    clear hL hlt h0 hp hcell e1 hv
    cases neg
    all_goals
      go_enter Tryz.func68, Tryz.ntmps68
      go_wp2_with fail
      go_ret
      exact ⟨rfl, Below.refl _ _⟩
  · obtain ⟨Z, hZ⟩ : ∃ Z, size n = Z := ⟨_, rfl⟩
    have hZb : Z ≤ 9600 := by
      have : size n ≤ 32 * (dig n).length := size_le.2 (by rw [← b_pow]; exact dig_lt n)
      omega
    obtain ⟨s, hs⟩ : ∃ s, max ((Z : Int) - 53) (-1074 - e) = s := ⟨_, rfl⟩
    have hsb : -4000 - 2074 ≤ s ∧ s ≤ 9600 := by omega
    have hif : (if (Z : Int) - 53 < -1074 - e then -1074 - e else (Z : Int) - 53) = s := by split <;> omega
    obtain ⟨Q1, up, r1, r2, r3, r4, r5⟩ := round_parts (e := e) hn (hZ ▸ hs.symm) hm
    have hLp : (L : Int) ≠ 0 := by have := (hp hn).1; omega
    have hLb2 : ((L : Int) == 0) = false := by simpa using hLp
    rw [r1, hbase]
    obtain ⟨V, hV⟩ : ∃ V, Ieee.double.word neg (min ((e + s + 1074).toNat * 2 ^ 52 + (Q1 + up.toNat)) infR) = V := ⟨_, rfl⟩
    rw [hV]
    have hZ1 : n < bp 300 := Nat.lt_of_lt_of_le (lt_bp n) (bp_le sa)
    have HZ := Lib.hid hZ
    have HS := Lib.hid hs
    have HN3 := Lib.hid hZ1
    have R5 := Lib.hid r5
    have hr2 : Q1 ≤ 2 ^ 53 := by omega
    obtain ⟨Q, hQ⟩ : ∃ Q, Q1 + up.toNat = Q := ⟨_, rfl⟩
    rw [hQ] at r2 r3 hV
    have HV := Lib.hid hV
    clear hV
    have HQ := Lib.hid hQ
    clear hQ
    clear hZ hs hL hLb hlt h0 hp hcell hLp r1 r5 hZ1 hm hn
    go_enter Tryz.func68, Tryz.ntmps68
    go_upto_if 16 with fail
    go_cut [9] from 10 to 101 (fun x9 wr => x9 = wd (sgn neg) ∧ w = wr)
    case first =>
      cases neg
      all_goals
        go_wp2_with fail
        go_meet
        exact ⟨rfl, rfl⟩
    case rest =>
      obtain ⟨rfl, rfl⟩ := hcut
      go_upto_if 29 with (go_at_call 73; refine (kbsize H.out).mono ?_; rw [HZ.out]; rintro e w1 ⟨rfl, hw1⟩; have hw2 := hw1.symm; clear hw1; subst hw2)
      clear hif
      go_cut [11, 12] from 13 to 101 (fun x11 x12 wr => x12 = .bool up ∧ Bg base wr x11 Q1 ∧ Below base w wr)
      case first =>
        have hcase : (∃ S : Nat, s = (S : Int) ∧ 1 < S) ∨ s = 1 ∨ (∃ S : Nat, -s = (S : Int)) := by
          by_cases h1 : 1 < s
          · exact .inl ⟨s.toNat, by omega, by omega⟩
          · by_cases h2 : s = 1
            · exact .inr (.inl h2)
            · exact .inr (.inr ⟨(-s).toNat, by omega⟩)
        have sn : (dig n).length ≤ 1000 := by omega
        have SN := Lib.hid sn
        clear sn
        rcases hcase with ⟨S, hS, hS1⟩ | h1 | ⟨S, hS⟩
        · have hT : s.toNat = S := by omega
          obtain ⟨q1, q2⟩ : Q1 = n / 2 ^ S ∧ up = upR n S more := by
            rcases R5.out with ⟨_, a, b⟩ | ⟨a, _, _⟩
            · rw [hT] at a b; exact ⟨a, b⟩
            · omega
          obtain ⟨S', hS'⟩ : ∃ S', S - 1 = S' := ⟨_, rfl⟩
          have e1 : (S : Int) - 1 = (S' : Int) := by omega
          have hup : up = (n.testBit S' && (n % 2 ^ S' != 0 || more || (n / 2 ^ S) % 2 == 1)) := by rw [q2]; unfold upR; rw [hS']
          rw [← q1] at hup
          have hodd : (Q1 % 2 == 1) = Q1.testBit 0 := by rw [Nat.testBit_eq_decide_div_mod_eq, Nat.pow_zero, Nat.div_one]; rfl
          rw [hodd] at hup
          obtain ⟨hb, hhb⟩ : ∃ hb, n.testBit S' = hb := ⟨_, rfl⟩
          obtain ⟨ls, hls⟩ : ∃ ls, (n % 2 ^ S' != 0) = ls := ⟨_, rfl⟩
          obtain ⟨od, hod⟩ : ∃ od, Q1.testBit 0 = od := ⟨_, rfl⟩
          obtain ⟨l2, hl2⟩ : ∃ l2, (n % 2 ^ S != 0) = l2 := ⟨_, rfl⟩
          rw [hhb, hls, hod] at hup
          have HHB := Lib.hid hhb
          have HLS := Lib.hid hls
          have HOD := Lib.hid hod
          have HL2 := Lib.hid hl2
          have HQ1 := Lib.hid q1.symm
          have hb1 : S ≤ 10000 := by omega
          have hb2 : S' ≤ 10000 := by omega
          have i1 : (1 : Int) < (S : Int) := by omega
          subst hS
          clear hT q1 q2 hodd hhb hls hod hl2 hS' R5
          have hpaths : (hb = false) ∨ (hb = true ∧ ls = true) ∨ (hb = true ∧ ls = false ∧ more = true) ∨ (hb = true ∧ ls = false ∧ more = false) := by cases hb <;> cases ls <;> cases more <;> simp
          rcases hpaths with rfl | ⟨rfl, rfl⟩ | ⟨rfl, rfl, rfl⟩ | ⟨rfl, rfl, rfl⟩
          all_goals
            simp only [Bool.false_and, Bool.true_and, Bool.true_or, Bool.false_or] at hup
            subst hup
            go_wp2_with (first
              | (go_at_call 98; have tk2 := tk1; refine (kbit K3.out 0 (by omega)).mono ?_; rw [HOD.out]; rintro e wz ⟨rfl, hw1⟩; have hw2 := hw1.symm; clear hw1; subst hw2)
              | (go_at_call 98; have tk1 := True.intro; refine (kbit (H.out.keep (w' := w3) (by rw [hbase]; exact B3.out)) S' (by omega)).mono ?_; rw [HHB.out]; rintro e wz ⟨rfl, hw1⟩; have hw2 := hw1.symm; clear hw1; subst hw2)
              | (go_at_call 97; have tk4 := tk3; refine (kdown (H.out.keep (w' := w2) (by rw [hbase]; exact B2.out)) S' hb2 SN.out).mono ?_; rw [HLS.out]; rintro e w3 ⟨p3, rfl, k3, b3⟩; have K3 := Lib.hid (K2.out.keep b3); have B3 := Lib.hid (B2.out.trans (b3.mono (by have := B2.out.size; omega))); clear k3 b3)
              | (go_at_call 97; have tk3 := True.intro; refine (kdown H.out S hb1 SN.out).mono ?_; rw [HL2.out, HQ1.out, hbase]; rintro e w2 ⟨p2, rfl, k2, b2⟩; have K2 := Lib.hid k2; have B2 := Lib.hid b2; clear k2 b2))
            go_meet
            exact ⟨rfl, K3.out, B3.out⟩
        · have hT : s.toNat = 1 := by omega
          obtain ⟨q1, q2⟩ : Q1 = n / 2 ^ 1 ∧ up = upR n 1 more := by
            rcases R5.out with ⟨_, a, b⟩ | ⟨a, _, _⟩
            · rw [hT] at a b; exact ⟨a, b⟩
            · omega
          have hup : up = (n.testBit 0 && (more || (n / 2 ^ 1) % 2 == 1)) := by rw [q2]; unfold upR; simp [Nat.mod_one]
          rw [← q1] at hup
          have hodd : (Q1 % 2 == 1) = Q1.testBit 0 := by rw [Nat.testBit_eq_decide_div_mod_eq, Nat.pow_zero, Nat.div_one]; rfl
          rw [hodd] at hup
          obtain ⟨hb, hhb⟩ : ∃ hb, n.testBit 0 = hb := ⟨_, rfl⟩
          obtain ⟨od, hod⟩ : ∃ od, Q1.testBit 0 = od := ⟨_, rfl⟩
          obtain ⟨l2, hl2⟩ : ∃ l2, (n % 2 ^ 1 != 0) = l2 := ⟨_, rfl⟩
          rw [hhb, hod] at hup
          have HHB := Lib.hid hhb
          have HOD := Lib.hid hod
          have HL2 := Lib.hid hl2
          have HQ1 := Lib.hid q1.symm
          subst h1
          clear hT q1 q2 hodd hhb hod hl2 R5
          have hpaths : (hb = false) ∨ (hb = true ∧ more = true) ∨ (hb = true ∧ more = false) := by cases hb <;> cases more <;> simp
          rcases hpaths with rfl | ⟨rfl, rfl⟩ | ⟨rfl, rfl⟩
          all_goals
            simp only [Bool.false_and, Bool.true_and, Bool.true_or, Bool.false_or] at hup
            subst hup
            go_wp2_with (first
              | (go_at_call 98; have tk2 := tk1; refine (kbit K2.out 0 (by omega)).mono ?_; rw [HOD.out]; rintro e wz ⟨rfl, hw1⟩; have hw2 := hw1.symm; clear hw1; subst hw2)
              | (go_at_call 98; have tk1 := True.intro; refine (kbit (H.out.keep (w' := w2) (by rw [hbase]; exact B2.out)) 0 (by omega)).mono ?_; rw [HHB.out]; rintro e wz ⟨rfl, hw1⟩; have hw2 := hw1.symm; clear hw1; subst hw2)
              | (go_at_call 97; refine (kdown H.out 1 (by omega) SN.out).mono ?_; rw [HL2.out, HQ1.out, hbase]; rintro e w2 ⟨p2, rfl, k2, b2⟩; have K2 := Lib.hid k2; have B2 := Lib.hid b2; clear k2 b2))
            go_meet
            exact ⟨rfl, K2.out, B2.out⟩
        · obtain ⟨q1, rfl⟩ : Q1 = n * 2 ^ S ∧ up = false := by
            rcases R5.out with ⟨a, _, _⟩ | ⟨_, a, b⟩
            · omega
            · rw [show (-s).toNat = S by omega] at a; exact ⟨a, b⟩
          have HQ1 := Lib.hid q1.symm
          have i1 : ¬ (0 : Int) < s := by omega
          have hb1 : S ≤ 10000 := by omega
          clear q1 R5
          go_wp2_with (go_at_call 79; refine (kup H.out S hb1 SN.out).mono ?_; rw [HQ1.out, hbase]; rintro e w2 ⟨p2, rfl, k2, b2⟩; have K2 := Lib.hid k2; have B2 := Lib.hid b2; clear k2 b2)
          go_meet
          exact ⟨rfl, K2.out, B2.out⟩
      case rest =>
        obtain ⟨rfl, hbg, hbel⟩ := hcut
        have BG := Lib.hid hbg
        have BL := Lib.hid hbel
        have hbw : base ≤ wc.heap.size := by rw [← hbase]; exact hbel.size
        clear hbg hbel R5
        go_upto_if 64 with fail
        go_cut [11] from 13 to 101 (fun x11 wr => Bg base wr x11 Q ∧ Below base w wr)
        case first =>
          cases up
          · go_wp2_with fail
            go_meet
            refine ⟨?_, BL.out⟩
            rw [← HQ.out]
            exact BG.out
          · have s1 : (dig Q1).length ≤ 1000 := Nat.le_trans (dig_len (k := 2) (Nat.lt_of_le_of_lt hr2 (by decide))) (by decide)
            have s4 : (dig 1).length ≤ 1000 := Nat.le_trans (dig_len (k := 1) (by decide)) (by decide)
            have S1 := Lib.hid s1
            have S4 := Lib.hid s4
            clear s1 s4
            go_wp2_with (first
              | (go_at_call 85; refine (kplus BG5.out K5.out S1.out S4.out).mono ?_; rintro e w6 ⟨p6, rfl, k6, b6⟩; have K6 := Lib.hid (k6.low (lo' := base) (by have := B5.out.size; omega)); have B6 := Lib.hid (B5.out.trans (b6.mono (by have := B5.out.size; omega))); clear k6 b6)
              | (go_at_call 69; refine (kfrom (n := 1) (by decide) wc).mono ?_; rintro e w5 ⟨p5, rfl, k5, b5⟩; have K5 := Lib.hid k5; have BG5 := Lib.hid (BG.out.keep b5); have B5 := Lib.hid (BL.out.trans (b5.mono hbw)); clear k5 b5))
            go_meet
            refine ⟨?_, B6.out⟩
            rw [← HQ.out]
            exact K6.out
        case rest =>
          obtain ⟨hbg, hbel⟩ := hcut
          have BG := Lib.hid hbg
          have BL := Lib.hid hbel
          clear hbg hbel
          obtain ⟨E, hE⟩ : ∃ E, e + s = E := ⟨_, rfl⟩
          have hEb : -1074 ≤ E ∧ E ≤ 15000 := by omega
          have r3' : 2 ^ 52 ≤ Q ∨ E = -1074 := by rw [hE] at r3; exact r3
          have hv : ∀ R, (E + 1074).toNat * 2 ^ 52 + Q = R → V = Ieee.double.word neg (min R infR) := by
            intro R hR
            rw [← HV.out, hE, hR]
          have HVV := Lib.hid hv
          have hi := infR_eq
          have HI := Lib.hid hi
          clear hv r3 r4 hi
          have s1 : (dig Q).length ≤ 1000 := Nat.le_trans (dig_len (k := 2) (Nat.lt_of_le_of_lt r2 (by decide))) (by decide)
          have S1 := Lib.hid s1
          clear s1
          by_cases hbig : Q = 2 ^ 53
          · subst hbig
            have hsz : size (2 ^ 53) = 54 := by decide
            have HSZ := Lib.hid hsz
            have hdv : (2 ^ 53) / 2 ^ 1 = 2 ^ 52 := by decide
            have HDV := Lib.hid hdv
            clear hsz hdv r2 r3'
            by_cases hov : 2047 ≤ E + 1 + 1075
            · have hval : V = Ieee.double.word neg infR := by
                rw [HVV.out _ rfl, Nat.min_eq_right]
                have := HI.out
                omega
              have hor := or_sgn neg (x := infR) (by decide)
              have hinf : ((infR : Nat) : Int) = 9218868437227405312 := by decide
              rw [hinf] at hor
              rw [← hval] at hor
              clear hval hinf
              go_wp2_with (first
                | (go_at_call 74; refine (klow K2.out).mono ?_; rw [show 2 ^ 52 % 2 ^ 64 = 4503599627370496 by decide]; rintro x w4 ⟨rfl, hw1⟩; have hw2 := hw1.symm; clear hw1; subst hw2)
                | (go_at_call 97; refine (kdown BG.out 1 (by omega) S1.out).mono ?_; rw [show (2 : Nat) ^ 53 / 2 ^ 1 = 2 ^ 52 by decide]; rintro x w2 ⟨p2, rfl, k2, b2⟩; have K2 := Lib.hid k2; have B2 := Lib.hid (BL.out.trans (b2.mono (by rw [← hbase]; exact BL.out.size))); clear k2 b2)
                | (go_at_call 73; refine (kbsize BG.out).mono ?_; rw [HSZ.out]; rintro x w1 ⟨rfl, hw1⟩; have hw2 := hw1.symm; clear hw1; subst hw2))
              go_ret
              exact ⟨rfl, B2.out⟩
            · obtain ⟨F, hF⟩ : ∃ F : Nat, E + 1 + 1075 = (F : Int) := ⟨(E + 1 + 1075).toNat, by omega⟩
              have hFl : F < 2047 := by omega
              have hval : V = Ieee.double.word neg (F * 2 ^ 52) := by
                rw [HVV.out (F * 2 ^ 52) (by omega), Nat.min_eq_left (by have := HI.out; omega)]
              obtain ⟨X, hX⟩ : ∃ X, F * 2 ^ 52 = X := ⟨_, rfl⟩
              have hXl : X < 2 ^ 63 := by omega
              have h1 : (F : Int) % 18446744073709551616 = (F : Int) := by omega
              have h2 : (F : Int) * 4503599627370496 = (X : Int) := by omega
              have h3 : (X : Int) % 18446744073709551616 = (X : Int) := by omega
              have h4 := or_sgn neg (x := X) hXl
              have h5 := or_frac neg (F := F) (f := 0) hFl (by decide)
              rw [Nat.add_zero, hX] at h5
              rw [hX] at hval
              obtain ⟨Y, hY⟩ : ∃ Y, Ieee.double.word neg X = Y := ⟨_, rfl⟩
              rw [hY] at h4 h5 hval
              have h5' : bits .or .u64 (Y : Int) 0 = (Y : Int) := h5
              have hov2 : ¬ (2047 : Int) ≤ (F : Int) := by omega
              subst hval
              clear hX hY h5 hov hFl hXl
              go_wp2_with (first
                | (go_at_call 74; refine (klow K2.out).mono ?_; rw [show 2 ^ 52 % 2 ^ 64 = 4503599627370496 by decide]; rintro x w4 ⟨rfl, hw1⟩; have hw2 := hw1.symm; clear hw1; subst hw2)
                | (go_at_call 97; refine (kdown BG.out 1 (by omega) S1.out).mono ?_; rw [show (2 : Nat) ^ 53 / 2 ^ 1 = 2 ^ 52 by decide]; rintro x w2 ⟨p2, rfl, k2, b2⟩; have K2 := Lib.hid k2; have B2 := Lib.hid (BL.out.trans (b2.mono (by rw [← hbase]; exact BL.out.size))); clear k2 b2)
                | (go_at_call 73; refine (kbsize BG.out).mono ?_; rw [HSZ.out]; rintro x w1 ⟨rfl, hw1⟩; have hw2 := hw1.symm; clear hw1; subst hw2))
              go_ret
              exact ⟨rfl, B2.out⟩
          · have hQl : Q < 2 ^ 53 := by omega
            have hsz : size Q ≤ 53 := size_le.2 hQl
            obtain ⟨zq, hzq⟩ : ∃ zq, size Q = zq := ⟨_, rfl⟩
            rw [hzq] at hsz
            have hsz2 : ¬ (53 : Int) < (zq : Int) := by omega
            have HSZ := Lib.hid hzq
            have hlow : Q % 2 ^ 64 = Q := Nat.mod_eq_of_lt (by omega)
            have HLOW := Lib.hid hlow
            clear hsz hzq hlow hbig r2
            obtain ⟨qz, hqz⟩ : ∃ qz : Int, (Q : Int) = qz := ⟨_, rfl⟩
            by_cases hsm : Q < 2 ^ 52
            · have hE0 : E = -1074 := by omega
              have hval : V = Ieee.double.word neg Q := by
                rw [HVV.out Q (by omega), Nat.min_eq_left (by have := HI.out; omega)]
              have h4 := or_sgn neg (x := Q) (by omega)
              rw [hqz] at h4
              have h6 : qz < 4503599627370496 := by omega
              rw [← hval] at h4
              clear hval hE0 r3' hsm hQl
              go_wp2_with (first
                | (go_at_call 74; refine (klow BG.out).mono ?_; rw [HLOW.out]; rintro x w4 ⟨rfl, hw1⟩; have hw2 := hw1.symm; clear hw1; subst hw2)
                | (go_at_call 73; refine (kbsize BG.out).mono ?_; rw [HSZ.out]; rintro x w1 ⟨rfl, hw1⟩; have hw2 := hw1.symm; clear hw1; subst hw2))
              go_ret
              exact ⟨rfl, BL.out⟩
            · have h6 : ¬ qz < 4503599627370496 := by omega
              clear r3'
              by_cases hov : 2047 ≤ E + 1075
              · have hval : V = Ieee.double.word neg infR := by
                  rw [HVV.out _ rfl, Nat.min_eq_right]
                  have := HI.out
                  omega
                have hor := or_sgn neg (x := infR) (by decide)
                have hinf : ((infR : Nat) : Int) = 9218868437227405312 := by decide
                rw [hinf] at hor
                rw [← hval] at hor
                clear hval hinf hsm hQl
                go_wp2_with (first
                  | (go_at_call 74; refine (klow BG.out).mono ?_; rw [HLOW.out]; rintro x w4 ⟨rfl, hw1⟩; have hw2 := hw1.symm; clear hw1; subst hw2)
                  | (go_at_call 73; refine (kbsize BG.out).mono ?_; rw [HSZ.out]; rintro x w1 ⟨rfl, hw1⟩; have hw2 := hw1.symm; clear hw1; subst hw2))
                go_ret
                exact ⟨rfl, BL.out⟩
              · obtain ⟨F, hF⟩ : ∃ F : Nat, E + 1075 = (F : Int) := ⟨(E + 1075).toNat, by omega⟩
                have hFl : F < 2047 := by omega
                obtain ⟨f, hf⟩ : ∃ f, Q - 2 ^ 52 = f := ⟨_, rfl⟩
                have hfl : f < 2 ^ 52 := by omega
                have hval : V = Ieee.double.word neg (F * 2 ^ 52 + f) := by
                  rw [HVV.out (F * 2 ^ 52 + f) (by omega), Nat.min_eq_left (by have := HI.out; omega)]
                obtain ⟨X, hX⟩ : ∃ X, F * 2 ^ 52 = X := ⟨_, rfl⟩
                have hXl : X < 2 ^ 63 := by omega
                have h1 : (F : Int) % 18446744073709551616 = (F : Int) := by omega
                have h2 : (F : Int) * 4503599627370496 = (X : Int) := by omega
                have h3 : (X : Int) % 18446744073709551616 = (X : Int) := by omega
                have h4 := or_sgn neg (x := X) hXl
                have h5 := or_frac neg (F := F) (f := f) hFl hfl
                rw [hX] at h5 hval
                obtain ⟨Y, hY⟩ : ∃ Y, Ieee.double.word neg X = Y := ⟨_, rfl⟩
                obtain ⟨Y2, hY2⟩ : ∃ Y2, Ieee.double.word neg (X + f) = Y2 := ⟨_, rfl⟩
                rw [hY] at h4 h5
                rw [hY2] at h5 hval
                have h7 : qz - 4503599627370496 = (f : Int) := by omega
                have h8 : (f : Int) % 18446744073709551616 = (f : Int) := by omega
                have hov2 : ¬ (2047 : Int) ≤ (F : Int) := by omega
                rw [← hval] at h5
                clear hval hX hY hY2 hov hFl hXl hf hfl hsm hQl
                go_wp2_with (first
                  | (go_at_call 74; refine (klow BG.out).mono ?_; rw [HLOW.out]; rintro x w4 ⟨rfl, hw1⟩; have hw2 := hw1.symm; clear hw1; subst hw2)
                  | (go_at_call 73; refine (kbsize BG.out).mono ?_; rw [HSZ.out]; rintro x w1 ⟨rfl, hw1⟩; have hw2 := hw1.symm; clear hw1; subst hw2))
                go_ret
                exact ⟨rfl, BL.out⟩
end Go.Proofs.YtoodbdjmbicaeaaGreatDoor
