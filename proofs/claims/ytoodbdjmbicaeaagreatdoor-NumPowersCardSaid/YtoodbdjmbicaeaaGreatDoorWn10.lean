/- Whole numbers of the document's answer: quotient and rest. No condition. -/
import Derived.Test.YtoodbdjmbicaeaaGreatDoorWn9
namespace Go.Proofs.YtoodbdjmbicaeaaGreatDoor
open Go.RowKit
set_option maxRecDepth 8000
set_option maxHeartbeats 1000000
set_option linter.unusedVariables false
set_option linter.unusedSimpArgs false

theorem or32 {a b : Nat} (ha : a < 2 ^ 32) (hb : b < 2 ^ 32) : bits .or .u32 (a : Int) (b : Int) = ((a ||| b : Nat) : Int) := by
  show IntKind.u32.wrap ((BitVec.ofInt 32 (a : Int) ||| BitVec.ofInt 32 (b : Int)).toNat : Int) = _
  rw [BitVec.toNat_or, BitVec.ofInt_natCast, BitVec.ofInt_natCast, BitVec.toNat_ofNat, BitVec.toNat_ofNat, Nat.mod_eq_of_lt ha, Nat.mod_eq_of_lt hb, IntKind.wrap_u32']
  have := Nat.or_lt_two_pow ha hb
  omega
/-- A step of the division, bit by bit. -/
theorem parts_step {a b i bit rr t : Nat} (hb : 0 < b) (hbit : a / 2 ^ i = 2 * (a / 2 ^ (i + 1)) + bit) (hbl : bit ≤ 1) (hr : rr = a / 2 ^ (i + 1) % b) (ht : t = if b ≤ 2 * rr + bit then 1 else 0) :
    a / 2 ^ i / b = 2 * (a / 2 ^ (i + 1) / b) + t ∧ a / 2 ^ i % b = 2 * rr + bit - t * b := by
  obtain ⟨A, hA⟩ : ∃ A, a / 2 ^ (i + 1) = A := ⟨_, rfl⟩
  rw [hA] at hbit hr ⊢
  obtain ⟨Q, hQ⟩ : ∃ Q, A / b = Q := ⟨_, rfl⟩
  have h1 : A = b * Q + rr := by rw [← hQ, hr]; exact (Nat.div_add_mod A b).symm
  have h2 : rr < b := by rw [hr]; exact Nat.mod_lt _ hb
  rw [hbit, hQ]
  by_cases h : b ≤ 2 * rr + bit
  · rw [if_pos h] at ht
    subst ht
    have e : 2 * A + bit = b * (2 * Q + 1) + (2 * rr + bit - b) := by
      rw [h1, Nat.mul_add b, Nat.mul_one, Nat.mul_left_comm b 2 Q]; omega
    rw [e, Nat.one_mul]
    constructor
    · rw [Nat.mul_add_div hb, Nat.div_eq_of_lt (by omega)]
    · rw [Nat.mul_add_mod, Nat.mod_eq_of_lt (by omega)]
  · rw [if_neg h] at ht
    subst ht
    have e : 2 * A + bit = b * (2 * Q) + (2 * rr + bit) := by
      rw [h1, Nat.mul_left_comm b 2 Q]; omega
    rw [e, Nat.zero_mul]
    constructor
    · rw [Nat.mul_add_div hb, Nat.div_eq_of_lt (by omega)]
    · rw [Nat.mul_add_mod, Nat.mod_eq_of_lt (by omega)]
      omega
theorem bit_div (a i : Nat) : a / 2 ^ i = 2 * (a / 2 ^ (i + 1)) + (a.testBit i).toNat ∧ (a.testBit i).toNat ≤ 1 := by
  rw [Nat.testBit_eq_decide_div_mod_eq, Nat.pow_succ, ← Nat.div_div_eq_div_mul]
  obtain ⟨A, hA⟩ : ∃ A, a / 2 ^ i = A := ⟨_, rfl⟩
  rw [hA]
  have h := Nat.mod_two_eq_zero_or_one A
  rcases h with h | h
  · rw [h]; simp; omega
  · rw [h]; simp; omega
/-- The word that a bit is put into has nothing in it, or above it in its lower part. -/
theorem bit_word {out : List Nat} (hok : OkL out) {Q i d r : Nat} (hnum : num out = Q * 2 ^ (i + 1)) (hi : i = 32 * d + r) (hr : r < 32) (hd : d < out.length) :
    ∃ t, out.getD d 0 = 2 ^ (r + 1) * t := by
  rw [getD_get hd, get_num hok d hd, hnum]
  have h1 : (4294967296 : Nat) ^ d = 2 ^ (32 * d) := b_pow d
  have h2 : 2 ^ (i + 1) = 2 ^ (r + 1) * 2 ^ (32 * d) := by rw [← Nat.pow_add]; congr 1; omega
  rw [h1, h2, ← Nat.mul_assoc, Nat.mul_div_cancel _ (Nat.two_pow_pos _)]
  have h3 : (4294967296 : Nat) = 2 ^ (r + 1) * 2 ^ (31 - r) := by
    rw [← Nat.pow_add, show r + 1 + (31 - r) = 32 by omega]
  refine ⟨Q % 2 ^ (31 - r), ?_⟩
  rw [h3, Nat.mul_comm Q, Nat.mul_mod_mul_left]

theorem own_same_block {w w' : World} {base n cap : Nat} {xs : List Value} (h : w.ownsRow base 72 1 (.slice (some ⟨base, 0, none⟩) n cap) n xs) (hs : w'.heap[base]? = w.heap[base]?) : w'.ownsRow base 72 1 (.slice (some ⟨base, 0, none⟩) n cap) n xs := by
  obtain ⟨h1, ⟨h2, _⟩ | ⟨g, c, cur, hv, h3⟩⟩ := h
  · cases h2
  · injection hv with hv1 hv2 hv3
    injection hv1 with hv1
    injection hv1 with hv1
    subst hv1
    exact ⟨h1, .inr ⟨base, c, cur, by rw [hv3], h3.1, by rw [hs]; exact h3.2.1, h3.2.2⟩⟩
theorem kparts {lo lo' : Nat} {w : World} {v v' : Value} {a b : Nat} (h : Bg lo w v a) (h' : Bg lo' w v' b) (hb0 : 0 < b) (sa : (dig a).length ≤ 900) (sb : (dig b).length ≤ 900) :
    Calls Tryz.prog 78 #[v, v'] w fun e w' => ∃ u u', e = .returned (.tuple #[u, u']) ∧ Bg w.heap.size w' u (a / b) ∧ Bg w.heap.size w' u' (a % b) ∧ Below w.heap.size w w' := by
  have H := Lib.hid h
  have H' := Lib.hid h'
  obtain ⟨ao, cap, La, rfl, hL, _, hlt, h0, hp, hcell⟩ := h.open
  rw [← hL] at sa
  have hA : a < bp La := hlt
  have hsz : size a ≤ 32 * La := size_le.2 (by rw [← b_pow]; exact hlt)
  obtain ⟨base, hbase⟩ : ∃ base, w.heap.size = base := ⟨_, rfl⟩
  obtain ⟨i0, hi0, hz0, hz1, hz2⟩ := info_parts info78
  obtain ⟨S, hS⟩ : ∃ S, size a = S := ⟨_, rfl⟩
  have haS : a < 2 ^ S := by rw [← size_le, hS]; exact Nat.le_refl _
  have HS := Lib.hid hS
  have HAS := Lib.hid haS
  have hbl : b < bp 900 := Nat.lt_of_lt_of_le (lt_bp b) (bp_le sb)
  have HBL := Lib.hid hbl
  have HB0 := Lib.hid hb0
  rw [hS] at hsz
  rw [hbase]
  clear hL hlt h0 hp hcell hA hS haS hbl hb0 h h' sb
  go_enter Tryz.func78, Tryz.ntmps78
  go_wp2_with (first
    | (go_at_call 73; refine (kbsize (BA3.out)).mono ?_; rw [HS.out]; rintro e w1 ⟨rfl, hw1⟩; have hw2 := hw1.symm; clear hw1; subst hw2)
    | (at_make; refine wpList_make_full _ rfl _ _ 51 rfl base 72 i0 (.int .u32 0) 1 Tryz.underlying51 hi0 hz0 hz1 .i64 .i64 _ _ La rfl rfl rfl rfl (by rw [hz2]; omega) (by unfold maxLen; omega) (by omega) ?_; intro w3 hown3 hgrow3; rw [made_zero] at hown3; rw [hbase] at hown3; have O3 := Lib.hid hown3; have hb3 : Below base w w3 := (by rw [← hbase]; exact (Below.refl _ _).grown hgrow3 (Nat.le_refl _) (fun k hk => by cases hk)); have B3 := Lib.hid hb3; have BA3 := Lib.hid (H.out.keep (w' := w3) (by rw [hbase]; exact hb3)); clear hown3 hgrow3 hb3))
  go_loopw [7, 8] (fun u y wr => ∃ (out : List Nat) (rr j : Nat) (z : Int), y = .int .i64 z ∧ z = (j : Int) - 1 ∧ j ≤ S ∧ rr = a / 2 ^ j % b ∧ num out = a / 2 ^ j / b * 2 ^ j ∧ out.length = La ∧ OkL out ∧ Bg (base + 1) wr u rr ∧ wr.ownsRow base 72 1 (.slice (some ⟨base, 0, none⟩) La La) La (out.map f32) ∧ Below base w wr) (fun _ y _ => ((intOf y) + 1).toNat)
  case atStart =>
    refine ⟨List.replicate La 0, 0, S, (S : Int) - 1, rfl, rfl, Nat.le_refl _, ?_, ?_, by simp, okl_zero La, Bg.zero _ _, O3.out, B3.out⟩
    · rw [Nat.div_eq_of_lt HAS.out, Nat.zero_mod]
    · rw [num_zero, Nat.div_eq_of_lt HAS.out, Nat.zero_div, Nat.zero_mul]
  case round =>
    obtain ⟨out, rr, j, z, rfl, hz, hj, hrr, hnum, hlen, hok, hbg, hown, hbel⟩ := hrel
    have BG := Lib.hid hbg
    have BL := Lib.hid hbel
    have O := Lib.hid hown
    have OK := Lib.hid hok
    have HI := Lib.hid hlen
    have HN := Lib.hid hnum
    have HR := Lib.hid hrr
    have hbw : base + 1 ≤ wr.heap.size := by
      have := (hown.lt base rfl).2
      omega
    by_cases hj0 : j = 0
    · subst hj0
      obtain rfl : z = -1 := by omega
      have e1 : num out = a / b := by rw [HN.out]; simp
      have e2 : rr = a % b := by rw [HR.out]; simp
      have E1 := Lib.hid e1
      have E2 := Lib.hid e2
      clear hz hrr hnum hlen hok hbg hown hbel e1 e2
      go_wp2_with (go_at_call 99; refine (ktrim base wr.heap.size wr _ out (Sl.owns (by rw [HI.out]; exact O.out) (by rw [HI.out]; omega)) OK.out).mono ?_; rintro e w2 ⟨v2, rfl, h2, hw1⟩; have hw2 := hw1.symm; clear hw1; subst hw2; have K2 := Lib.hid h2; clear h2)
      go_ret2
      exact ⟨_, _, rfl, by rw [← E1.out]; exact K2.out, by rw [← E2.out]; exact BG.out.low (by omega), BL.out⟩
    · obtain ⟨i, rfl⟩ : ∃ i, j = i + 1 := ⟨j - 1, by omega⟩
      obtain rfl : z = (i : Int) := by omega
      obtain ⟨bt, hbt⟩ : ∃ bt, a.testBit i = bt := ⟨_, rfl⟩
      have hrb : rr < b := by rw [hrr]; exact Nat.mod_lt _ HB0.out
      obtain ⟨hbd, hbl⟩ := bit_div a i
      rw [hbt] at hbd hbl
      have h901 : bp 901 = bp 900 * 4294967296 := bp_succ 900
      have s1 : (dig rr).length ≤ 1000 := Nat.le_trans (dig_len (k := 900) (by have := HBL.out; omega)) (by decide)
      obtain ⟨r2, hr2⟩ : ∃ r2, rr * 2 ^ 1 = r2 := ⟨_, rfl⟩
      have hr2' : r2 = 2 * rr := by rw [← hr2]; omega
      have s2 : (dig r2).length ≤ 1000 := Nat.le_trans (dig_len (k := 901) (by have := HBL.out; omega)) (by decide)
      have s3 : (dig (r2 + 1)).length ≤ 1000 := Nat.le_trans (dig_len (k := 901) (by have := HBL.out; omega)) (by decide)
      have s4 : (dig 1).length ≤ 1000 := Nat.le_trans (dig_len (k := 1) (by decide)) (by decide)
      have S1 := Lib.hid s1
      have S2 := Lib.hid s2
      have S3 := Lib.hid s3
      have S4 := Lib.hid s4
      have HBT := Lib.hid hbt
      have HR2 := Lib.hid hr2
      have hst : ∀ t, t = (if b ≤ 2 * rr + bt.toNat then 1 else 0) → a / 2 ^ i / b = 2 * (a / 2 ^ (i + 1) / b) + t ∧ a / 2 ^ i % b = 2 * rr + bt.toNat - t * b := fun t ht => parts_step HB0.out hbd hbl hrr ht
      have HST := Lib.hid hst
      have h32 : i < 32 * La := by omega
      obtain ⟨d, hd⟩ : ∃ d, i / 32 = d := ⟨_, rfl⟩
      obtain ⟨r, hr⟩ : ∃ r, i % 32 = r := ⟨_, rfl⟩
      have hi2 : i = 32 * d + r := by omega
      have hr32 : r < 32 := by omega
      have hdl : d < La := by omega
      have e1 : (i : Int) / 32 = (d : Int) := by omega
      have e2 : (i : Int) % 32 = (r : Int) := by omega
      have hcv : IntKind.u64.wrap (r : Int) = (r : Int) := by rw [IntKind.wrap_u64]; omega
      have hcv2 : (r : Int) % 18446744073709551616 = (r : Int) := by omega
      have i0' : (0 : Int) ≤ (i : Int) := by omega
      have i1' : (0 : Int) ≤ (d : Int) ∧ (d : Int) < (La : Int) := by omega
      obtain ⟨c3, f3⟩ := own_cell hown (j := d) hlen (by omega)
      obtain ⟨tt, htt⟩ := bit_word hok hnum hi2 hr32 (by omega)
      obtain ⟨o, ho⟩ : ∃ o, out.getD d 0 = o := ⟨_, rfl⟩
      have hol := getD_lt hok d
      rw [ho] at c3 htt hol
      obtain ⟨R, hR⟩ : ∃ R, 2 ^ r = R := ⟨_, rfl⟩
      have hRl : R < 4294967296 := by rw [← hR]; exact Nat.lt_of_lt_of_le (Nat.pow_lt_pow_right (by decide) hr32) (by decide)
      obtain ⟨o', ho'⟩ : ∃ o', o ||| R = o' := ⟨_, rfl⟩
      have hoo : o' = o + R := by
        rw [← ho', htt, Nat.or_comm, ← hR, orNat (Nat.pow_lt_pow_right (by decide) (Nat.lt_succ_self r)), Nat.add_comm]
      have hol' : o' < 4294967296 := by rw [← ho']; exact Nat.or_lt_two_pow (n := 32) hol hRl
      have hor : bits .or .u32 (o : Int) (R : Int) = (o' : Int) := by rw [or32 hol hRl, ho']
      have hset := num_set (l := out) (j := d) (v := o') (by omega)
      rw [ho, hoo, Nat.add_mul] at hset
      have hRb : R * bp d = 2 ^ i := by rw [← hR, hi2]; show 2 ^ r * 4294967296 ^ d = _; rw [b_pow, ← Nat.pow_add, Nat.add_comm]
      have hsetn : num (out.set d o') = num out + 2 ^ i := by rw [hoo]; omega
      have HSN := Lib.hid hsetn
      have hpi : 2 ^ (i + 1) = 2 * 2 ^ i := by rw [Nat.pow_succ]; omega
      have HPI := Lib.hid hpi
      have hq : ∀ t, a / 2 ^ i / b = 2 * (a / 2 ^ (i + 1) / b) + t → a / 2 ^ i / b * 2 ^ i = num out + t * 2 ^ i := by
        intro t ht
        rw [ht, HN.out, HPI.out, Nat.add_mul, Nat.mul_comm 2, Nat.mul_assoc]
      have HQ := Lib.hid hq
      have hRi : (2 : Int) ^ r = (R : Int) := by rw [← hR, Int.natCast_pow]; rfl
      have hRm : (R : Int) % 4294967296 = (R : Int) := by omega
      have hRw : IntKind.u32.wrap (R : Int) = (R : Int) := wrap32 hRl
      have HR2' := Lib.hid hr2'
      clear hi2 h32 hr2' hz hrr hnum hlen hok hbg hown hbel hj0 hbt hrb hbd hbl h901 s1 s2 s3 s4 hr2 hst hd hr htt ho hol hR ho' hoo hset hRb hsetn hpi hq
      have hc1 : (b ≤ r2 ∨ r2 < b) := Nat.lt_or_ge r2 b |>.symm
      have hc2 : (b ≤ r2 + 1 ∨ r2 + 1 < b) := Nat.lt_or_ge (r2 + 1) b |>.symm
      cases bt
      · rcases hc1 with hc | hc
        · have hcm : 0 ≤ cmpN (r2) b := by
            unfold cmpN
            rw [if_neg (by omega)]; split <;> omega
          have hs2 := HST.out 1 (by have := HR2'.out; rw [if_pos (by simp; omega)])
          have hsA := HQ.out 1 hs2.1
          have HA1 := Lib.hid hsA
          have HA2 := Lib.hid hs2.2
          have HGE := Lib.hid hc
          clear hc hs2 hsA
          clear hc2
          go_wp2_with (first
            | (go_at_call 86; refine (kminus K4d.out ((H'.out.keep (w' := w4.drewN n7) (by rw [hbase]; exact B4d.out))) HGE.out S2.out).mono ?_; rintro e w8 ⟨p8, rfl, k8, b8⟩; have K8 := Lib.hid (k8.low (lo' := base + 1) (by have := BS4.out; simp; omega)); have B8 := Lib.hid (B4d.out.trans (b8.mono (by have := BS4.out; simp; omega))); obtain ⟨c9, f9⟩ : w8.cell? ⟨base, d, none⟩ = some (.int .u32 (o : Int)) ∧ w8.frozen? ⟨base, d, none⟩ = false := ⟨(World.cell?_of_block (a := ⟨base, d, none⟩) (b8.block base (by have := BS4.out; simp; omega))).trans C4d.out, (World.frozen?_of_block (a := ⟨base, d, none⟩) (b8.block base (by have := BS4.out; simp; omega))).trans F4d.out⟩; have O8 := Lib.hid (own_same_block O4d.out (b8.block base (by have := BS4.out; simp; omega))); clear k8 b8)
            | (go_at_call 71; refine (kless K4.out ((H'.out.keep (w' := w4) (by rw [hbase]; exact B4.out)))).mono ?_; rintro e w7 ⟨rfl, n7, rfl⟩; have K4d := Lib.hid (K4.out.keep (drew_below w4 _ n7)); have B4d := Lib.hid (B4.out.trans (drew_below w4 base n7)); have C4d := Lib.hid (show (w4.drewN n7).cell? ⟨base, d, none⟩ = some (.int .u32 (o : Int)) from C4.out); have F4d := Lib.hid (show (w4.drewN n7).frozen? ⟨base, d, none⟩ = false from F4.out); have O4d := Lib.hid (show (w4.drewN n7).ownsRow base 72 1 (.slice (some ⟨base, 0, none⟩) La La) La (out.map f32) from O4.out))
            | (go_at_call 98; refine (kbit (H.out.keep (w' := w4) (by rw [hbase]; exact B4.out)) i (by omega)).mono ?_; rw [HBT.out]; rintro e w1 ⟨rfl, hw1⟩; have hw2 := hw1.symm; clear hw1; subst hw2)
            | (go_at_call 79; refine (kup BG.out 1 (by omega) S1.out).mono ?_; rw [HR2.out]; rintro e w4 ⟨p4, rfl, k4, b4⟩; have K4 := Lib.hid (k4.low hbw); have B4 := Lib.hid (BL.out.trans (b4.mono (by omega))); have BS4 := Lib.hid (show base + 1 ≤ w4.heap.size by have := b4.size; omega); have C4 := Lib.hid ((World.cell?_of_block (a := ⟨base, d, none⟩) (b4.block base (by omega))).trans c3); have F4 := Lib.hid ((World.frozen?_of_block (a := ⟨base, d, none⟩) (b4.block base (by omega))).trans f3); have O4 := Lib.hid (own_same_block O.out (b4.block base (by omega))); clear k4 b4))
          go_roundw
          case rel =>
            obtain ⟨own', grow'⟩ := own_set O8.out d o'
            refine ⟨out.set d o', r2 - b, i, (i : Int) - 1, rfl, rfl, by omega, ?_, by rw [HA1.out, HSN.out, Nat.one_mul], by rw [List.length_set]; exact HI.out, OK.out.set hol', ?_, own', B8.out.grown grow' (by rw [← hbase]; exact B8.out.size) (fun k hk => by injection hk with hk; omega)⟩
            · rw [HA2.out]; have := HR2'.out; simp; omega
            · exact (K8.out.same (fun k h1 h2 => grow'.block k h2 (fun e => by injection e with e; omega))).mono (Nat.le_refl _) grow'.size
          case measure => simp [intOf]
        · have hcm : ¬ 0 ≤ cmpN (r2) b := by
            unfold cmpN
            rw [if_pos hc]; omega
          have hs2 := HST.out 0 (by have := HR2'.out; rw [if_neg (by simp; omega)])
          have hsA := HQ.out 0 hs2.1
          have HA1 := Lib.hid hsA
          have HA2 := Lib.hid hs2.2
          clear hc hs2 hsA
          clear hc2
          go_wp2_with (first
            | (go_at_call 71; refine (kless K4.out ((H'.out.keep (w' := w4) (by rw [hbase]; exact B4.out)))).mono ?_; rintro e w7 ⟨rfl, n7, rfl⟩; have K4d := Lib.hid (K4.out.keep (drew_below w4 _ n7)); have B4d := Lib.hid (B4.out.trans (drew_below w4 base n7)); have C4d := Lib.hid (show (w4.drewN n7).cell? ⟨base, d, none⟩ = some (.int .u32 (o : Int)) from C4.out); have F4d := Lib.hid (show (w4.drewN n7).frozen? ⟨base, d, none⟩ = false from F4.out); have O4d := Lib.hid (show (w4.drewN n7).ownsRow base 72 1 (.slice (some ⟨base, 0, none⟩) La La) La (out.map f32) from O4.out))
            | (go_at_call 98; refine (kbit (H.out.keep (w' := w4) (by rw [hbase]; exact B4.out)) i (by omega)).mono ?_; rw [HBT.out]; rintro e w1 ⟨rfl, hw1⟩; have hw2 := hw1.symm; clear hw1; subst hw2)
            | (go_at_call 79; refine (kup BG.out 1 (by omega) S1.out).mono ?_; rw [HR2.out]; rintro e w4 ⟨p4, rfl, k4, b4⟩; have K4 := Lib.hid (k4.low hbw); have B4 := Lib.hid (BL.out.trans (b4.mono (by omega))); have BS4 := Lib.hid (show base + 1 ≤ w4.heap.size by have := b4.size; omega); have C4 := Lib.hid ((World.cell?_of_block (a := ⟨base, d, none⟩) (b4.block base (by omega))).trans c3); have F4 := Lib.hid ((World.frozen?_of_block (a := ⟨base, d, none⟩) (b4.block base (by omega))).trans f3); have O4 := Lib.hid (own_same_block O.out (b4.block base (by omega))); clear k4 b4))
          go_roundw
          case rel =>
            refine ⟨out, r2, i, (i : Int) - 1, rfl, rfl, by omega, ?_, by rw [HA1.out, Nat.zero_mul, Nat.add_zero], HI.out, OK.out, K4d.out, O4d.out, B4d.out⟩
            rw [HA2.out]; have := HR2'.out; simp; omega
          case measure => simp [intOf]
      · rcases hc2 with hc | hc
        · have hcm : 0 ≤ cmpN (r2 + 1) b := by
            unfold cmpN
            rw [if_neg (by omega)]; split <;> omega
          have hs2 := HST.out 1 (by have := HR2'.out; rw [if_pos (by simp; omega)])
          have hsA := HQ.out 1 hs2.1
          have HA1 := Lib.hid hsA
          have HA2 := Lib.hid hs2.2
          have HGE := Lib.hid hc
          clear hc hs2 hsA
          clear hc1
          go_wp2_with (first
            | (go_at_call 86; refine (kminus K6d.out ((H'.out.keep (w' := w6.drewN n7) (by rw [hbase]; exact B6d.out))) HGE.out S3.out).mono ?_; rintro e w8 ⟨p8, rfl, k8, b8⟩; have K8 := Lib.hid (k8.low (lo' := base + 1) (by have := BS6.out; simp; omega)); have B8 := Lib.hid (B6d.out.trans (b8.mono (by have := BS6.out; simp; omega))); obtain ⟨c9, f9⟩ : w8.cell? ⟨base, d, none⟩ = some (.int .u32 (o : Int)) ∧ w8.frozen? ⟨base, d, none⟩ = false := ⟨(World.cell?_of_block (a := ⟨base, d, none⟩) (b8.block base (by have := BS6.out; simp; omega))).trans C6d.out, (World.frozen?_of_block (a := ⟨base, d, none⟩) (b8.block base (by have := BS6.out; simp; omega))).trans F6d.out⟩; have O8 := Lib.hid (own_same_block O6d.out (b8.block base (by have := BS6.out; simp; omega))); clear k8 b8)
            | (go_at_call 71; refine (kless K6.out ((H'.out.keep (w' := w6) (by rw [hbase]; exact B6.out)))).mono ?_; rintro e w7 ⟨rfl, n7, rfl⟩; have K6d := Lib.hid (K6.out.keep (drew_below w6 _ n7)); have B6d := Lib.hid (B6.out.trans (drew_below w6 base n7)); have C6d := Lib.hid (show (w6.drewN n7).cell? ⟨base, d, none⟩ = some (.int .u32 (o : Int)) from C6.out); have F6d := Lib.hid (show (w6.drewN n7).frozen? ⟨base, d, none⟩ = false from F6.out); have O6d := Lib.hid (show (w6.drewN n7).ownsRow base 72 1 (.slice (some ⟨base, 0, none⟩) La La) La (out.map f32) from O6.out))
            | (go_at_call 85; refine (kplus K4b.out K5.out S2.out S4.out).mono ?_; rintro e w6 ⟨p6, rfl, k6, b6⟩; have K6 := Lib.hid (k6.low (lo' := base + 1) (by have := BS5.out; omega)); have B6 := Lib.hid (B5.out.trans (b6.mono (by have := BS5.out; omega))); have BS6 := Lib.hid (show base + 1 ≤ w6.heap.size by have := BS5.out; have := b6.size; omega); have C6 := Lib.hid ((World.cell?_of_block (a := ⟨base, d, none⟩) (b6.block base (by have := BS5.out; omega))).trans C5.out); have F6 := Lib.hid ((World.frozen?_of_block (a := ⟨base, d, none⟩) (b6.block base (by have := BS5.out; omega))).trans F5.out); have O6 := Lib.hid (own_same_block O5.out (b6.block base (by have := BS5.out; omega))); clear k6 b6)
            | (go_at_call 69; refine (kfrom (n := 1) (by decide) w4).mono ?_; rintro e w5 ⟨p5, rfl, k5, b5⟩; have K5 := Lib.hid k5; have K4b := Lib.hid (K4.out.keep b5); have B5 := Lib.hid (B4.out.trans (b5.mono (by have := BS4.out; omega))); have BS5 := Lib.hid (show base + 1 ≤ w5.heap.size by have := BS4.out; have := b5.size; omega); have C5 := Lib.hid ((World.cell?_of_block (a := ⟨base, d, none⟩) (b5.block base (by have := BS4.out; omega))).trans C4.out); have F5 := Lib.hid ((World.frozen?_of_block (a := ⟨base, d, none⟩) (b5.block base (by have := BS4.out; omega))).trans F4.out); have O5 := Lib.hid (own_same_block O4.out (b5.block base (by have := BS4.out; omega))); clear k5 b5)
            | (go_at_call 98; refine (kbit (H.out.keep (w' := w4) (by rw [hbase]; exact B4.out)) i (by omega)).mono ?_; rw [HBT.out]; rintro e w1 ⟨rfl, hw1⟩; have hw2 := hw1.symm; clear hw1; subst hw2)
            | (go_at_call 79; refine (kup BG.out 1 (by omega) S1.out).mono ?_; rw [HR2.out]; rintro e w4 ⟨p4, rfl, k4, b4⟩; have K4 := Lib.hid (k4.low hbw); have B4 := Lib.hid (BL.out.trans (b4.mono (by omega))); have BS4 := Lib.hid (show base + 1 ≤ w4.heap.size by have := b4.size; omega); have C4 := Lib.hid ((World.cell?_of_block (a := ⟨base, d, none⟩) (b4.block base (by omega))).trans c3); have F4 := Lib.hid ((World.frozen?_of_block (a := ⟨base, d, none⟩) (b4.block base (by omega))).trans f3); have O4 := Lib.hid (own_same_block O.out (b4.block base (by omega))); clear k4 b4))
          go_roundw
          case rel =>
            obtain ⟨own', grow'⟩ := own_set O8.out d o'
            refine ⟨out.set d o', r2 + 1 - b, i, (i : Int) - 1, rfl, rfl, by omega, ?_, by rw [HA1.out, HSN.out, Nat.one_mul], by rw [List.length_set]; exact HI.out, OK.out.set hol', ?_, own', B8.out.grown grow' (by rw [← hbase]; exact B8.out.size) (fun k hk => by injection hk with hk; omega)⟩
            · rw [HA2.out]; have := HR2'.out; simp; omega
            · exact (K8.out.same (fun k h1 h2 => grow'.block k h2 (fun e => by injection e with e; omega))).mono (Nat.le_refl _) grow'.size
          case measure => simp [intOf]
        · have hcm : ¬ 0 ≤ cmpN (r2 + 1) b := by
            unfold cmpN
            rw [if_pos hc]; omega
          have hs2 := HST.out 0 (by have := HR2'.out; rw [if_neg (by simp; omega)])
          have hsA := HQ.out 0 hs2.1
          have HA1 := Lib.hid hsA
          have HA2 := Lib.hid hs2.2
          clear hc hs2 hsA
          clear hc1
          go_wp2_with (first
            | (go_at_call 71; refine (kless K6.out ((H'.out.keep (w' := w6) (by rw [hbase]; exact B6.out)))).mono ?_; rintro e w7 ⟨rfl, n7, rfl⟩; have K6d := Lib.hid (K6.out.keep (drew_below w6 _ n7)); have B6d := Lib.hid (B6.out.trans (drew_below w6 base n7)); have C6d := Lib.hid (show (w6.drewN n7).cell? ⟨base, d, none⟩ = some (.int .u32 (o : Int)) from C6.out); have F6d := Lib.hid (show (w6.drewN n7).frozen? ⟨base, d, none⟩ = false from F6.out); have O6d := Lib.hid (show (w6.drewN n7).ownsRow base 72 1 (.slice (some ⟨base, 0, none⟩) La La) La (out.map f32) from O6.out))
            | (go_at_call 85; refine (kplus K4b.out K5.out S2.out S4.out).mono ?_; rintro e w6 ⟨p6, rfl, k6, b6⟩; have K6 := Lib.hid (k6.low (lo' := base + 1) (by have := BS5.out; omega)); have B6 := Lib.hid (B5.out.trans (b6.mono (by have := BS5.out; omega))); have BS6 := Lib.hid (show base + 1 ≤ w6.heap.size by have := BS5.out; have := b6.size; omega); have C6 := Lib.hid ((World.cell?_of_block (a := ⟨base, d, none⟩) (b6.block base (by have := BS5.out; omega))).trans C5.out); have F6 := Lib.hid ((World.frozen?_of_block (a := ⟨base, d, none⟩) (b6.block base (by have := BS5.out; omega))).trans F5.out); have O6 := Lib.hid (own_same_block O5.out (b6.block base (by have := BS5.out; omega))); clear k6 b6)
            | (go_at_call 69; refine (kfrom (n := 1) (by decide) w4).mono ?_; rintro e w5 ⟨p5, rfl, k5, b5⟩; have K5 := Lib.hid k5; have K4b := Lib.hid (K4.out.keep b5); have B5 := Lib.hid (B4.out.trans (b5.mono (by have := BS4.out; omega))); have BS5 := Lib.hid (show base + 1 ≤ w5.heap.size by have := BS4.out; have := b5.size; omega); have C5 := Lib.hid ((World.cell?_of_block (a := ⟨base, d, none⟩) (b5.block base (by have := BS4.out; omega))).trans C4.out); have F5 := Lib.hid ((World.frozen?_of_block (a := ⟨base, d, none⟩) (b5.block base (by have := BS4.out; omega))).trans F4.out); have O5 := Lib.hid (own_same_block O4.out (b5.block base (by have := BS4.out; omega))); clear k5 b5)
            | (go_at_call 98; refine (kbit (H.out.keep (w' := w4) (by rw [hbase]; exact B4.out)) i (by omega)).mono ?_; rw [HBT.out]; rintro e w1 ⟨rfl, hw1⟩; have hw2 := hw1.symm; clear hw1; subst hw2)
            | (go_at_call 79; refine (kup BG.out 1 (by omega) S1.out).mono ?_; rw [HR2.out]; rintro e w4 ⟨p4, rfl, k4, b4⟩; have K4 := Lib.hid (k4.low hbw); have B4 := Lib.hid (BL.out.trans (b4.mono (by omega))); have BS4 := Lib.hid (show base + 1 ≤ w4.heap.size by have := b4.size; omega); have C4 := Lib.hid ((World.cell?_of_block (a := ⟨base, d, none⟩) (b4.block base (by omega))).trans c3); have F4 := Lib.hid ((World.frozen?_of_block (a := ⟨base, d, none⟩) (b4.block base (by omega))).trans f3); have O4 := Lib.hid (own_same_block O.out (b4.block base (by omega))); clear k4 b4))
          go_roundw
          case rel =>
            refine ⟨out, r2 + 1, i, (i : Int) - 1, rfl, rfl, by omega, ?_, by rw [HA1.out, Nat.zero_mul, Nat.add_zero], HI.out, OK.out, K6d.out, O6d.out, B6d.out⟩
            rw [HA2.out]; have := HR2'.out; simp; omega
          case measure => simp [intOf]
end Go.Proofs.YtoodbdjmbicaeaaGreatDoor
