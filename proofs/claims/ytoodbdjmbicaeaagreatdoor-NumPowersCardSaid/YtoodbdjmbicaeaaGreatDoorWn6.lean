/- Whole numbers of the document's answer: times a power of two. No condition. -/
import Derived.Test.YtoodbdjmbicaeaaGreatDoorWn5
namespace Go.Proofs.YtoodbdjmbicaeaaGreatDoor
open Go.RowKit
set_option maxRecDepth 8000
set_option maxHeartbeats 1000000
set_option linter.unusedVariables false

theorem made_zero (n : Nat) : (madeCells (Value.int .u32 0).cells (n * 1)).toList = (List.replicate n 0).map f32 := by
  apply List.ext_getElem
  · simp [madeCells]
  · intro i h1 h2
    simp [madeCells, Value.cells, Nat.mod_one, f32]
theorem okl_zero (n : Nat) : OkL (List.replicate n 0) := fun x hx => by rw [(List.mem_replicate.1 hx).2]; decide
theorem num_zero (n : Nat) : num (List.replicate n 0) = 0 := by
  induction n with
  | zero => rfl
  | succ n ih => rw [List.replicate_succ, num, ih]
theorem pow_split (k q r : Nat) (h : k = 32 * q + r) : 2 ^ k = bp q * 2 ^ r := by
  show 2 ^ k = 4294967296 ^ q * 2 ^ r
  rw [b_pow, ← Nat.pow_add, h]

theorem kup {lo : Nat} {w : World} {v : Value} {a : Nat} (h : Bg lo w v a) (k : Nat) (hk : k ≤ 10000) (sa : (dig a).length ≤ 1000) :
    Calls Tryz.prog 79 #[v, .int .i64 (k : Int)] w fun e w' => ∃ u, e = .returned u ∧ Bg w.heap.size w' u (a * 2 ^ k) ∧ Below w.heap.size w w' := by
  obtain ⟨ao, cap, La, rfl, hL, _, hlt, h0, hp, hcell⟩ := h.open
  rw [← hL] at sa
  have hA : a < bp La := hlt
  have HC := Lib.hid hcell
  have HA := Lib.hid hA
  obtain ⟨base, hbase⟩ : ∃ base, w.heap.size = base := ⟨_, rfl⟩
  obtain ⟨i0, hi0, hz0, hz1, hz2⟩ := info_parts info78
  obtain ⟨q, hq⟩ : ∃ q, k / 32 = q := ⟨_, rfl⟩
  obtain ⟨r, hr⟩ : ∃ r, k % 32 = r := ⟨_, rfl⟩
  have e1 : (k : Int) / 32 = (q : Int) := by omega
  have e2 : (k : Int) % 32 = (r : Int) := by omega
  have hr32 : r < 32 := by omega
  have hkq : k = 32 * q + r := by omega
  have hpow := pow_split k q r hkq
  obtain ⟨R, hR⟩ : ∃ R, 2 ^ r = R := ⟨_, rfl⟩
  have hRp : 0 < R := by rw [← hR]; exact Nat.two_pow_pos _
  have hRl : R ≤ 2147483648 := by rw [← hR]; exact Nat.pow_le_pow_right (by decide) (show r ≤ 31 by omega)
  rw [hR] at hpow
  have hk0 : (0 : Int) ≤ (k : Int) := by omega
  have HPW := Lib.hid hpow
  have HRR := Lib.hid hR
  obtain ⟨A, hAA⟩ : ∃ A, a * 2 ^ k = A := ⟨_, rfl⟩
  have HAA := Lib.hid hAA
  rw [hbase, hAA]
  have hkb : q ≤ 1000 := by omega
  clear hL hlt h0 hp hcell hA hq hr hkq hpow hAA hR
  go_enter Tryz.func79, Tryz.ntmps79
  go_wp2_with (at_make; refine wpList_make_full _ rfl _ _ 51 rfl base 72 i0 (.int .u32 0) 1 Tryz.underlying51 hi0 hz0 hz1 .i64 .i64 _ _ q rfl rfl rfl rfl (by rw [hz2]; omega) (by unfold maxLen; omega) (by omega) ?_; intro w3 hown3 hgrow3; rw [made_zero] at hown3; have O3 := Lib.hid hown3; have G3 := Lib.hid hgrow3; clear hown3 hgrow3)
  have hb3 : Below base w w3 := by rw [← hbase]; exact (Below.refl _ _).grown G3.out (Nat.le_refl _) (fun k hk => by cases hk)
  have B3 := Lib.hid hb3
  clear hb3
  go_loopw [5, 6, 7] (fun u x y wr => ∃ (out : List Nat) (c i : Nat), x = .int .u64 (c : Int) ∧ y = .int .i64 (i : Int) ∧ out.length = q + i ∧ OkL out ∧ c < R ∧ i ≤ La ∧ num out + c * bp (q + i) = (a % bp i) * (bp q * R) ∧ wr.ownsRow base 72 1 u out.length (out.map f32) ∧ Below base w wr) (fun _ _ y _ => La + 2 - (intOf y).toNat)
  case atStart => exact ⟨List.replicate q 0, 0, 0, rfl, rfl, by simp, okl_zero q, hRp, Nat.zero_le _, by rw [num_zero, bp_zero, Nat.mod_one]; simp, by have := O3.out; rw [hbase] at this; rw [List.length_replicate]; exact this, B3.out⟩
  case round =>
    obtain ⟨out, c, i, rfl, rfl, hlen, hok, hcR, hiL, hnum, hown, hbel⟩ := hrel
    have O := Lib.hid hown
    have OK := Lib.hid hok
    have BL := Lib.hid hbel
    have HI := Lib.hid hlen
    have hbw : base ≤ wr.heap.size := by rw [← hbase]; exact hbel.size
    by_cases ha : i < La
    · have ja : (i : Int) < (La : Int) := by omega
      have hwa : wrd a i < 4294967296 := wrd_lt _ _
      obtain ⟨x, hx⟩ : ∃ x, wrd a i = x := ⟨_, rfl⟩
      rw [hx] at hwa
      obtain ⟨ba, oa, rfl, _, _, hca⟩ := HC.out (by omega)
      have c1 : wr.cell? ⟨ba, oa + i, none⟩ = some (.int .u32 (x : Int)) := (World.cell?_of_block (BL.out.block ba (by omega))).trans (by rw [hca i ha, hx])
      have hxR : x * R + c < 4294967296 * R := by
        have h1 : x * R + R ≤ 4294967296 * R := by rw [← Nat.succ_mul]; exact Nat.mul_le_mul_right _ hwa
        omega
      have hxR2 : x * R + c < 9223372036854775808 := by
        have : 4294967296 * R ≤ 4294967296 * 2147483648 := Nat.mul_le_mul_left _ hRl
        omega
      obtain ⟨X, hX⟩ : ∃ X, x * R = X := ⟨_, rfl⟩
      obtain ⟨s, hs⟩ : ∃ s, X + c = s := ⟨_, rfl⟩
      obtain ⟨d, hd⟩ : ∃ d, s % 4294967296 = d := ⟨_, rfl⟩
      obtain ⟨c', hc'⟩ : ∃ c', s / 4294967296 = c' := ⟨_, rfl⟩
      have hdl : d < 4294967296 := by omega
      have hc'R : c' < R := by rw [← hc', Nat.div_lt_iff_lt_mul (by decide), ← hs, ← hX, Nat.mul_comm R]; exact hxR
      have hor : bits .or .u64 (X : Int) (c : Int) = (s : Int) := by
        rw [hX] at hxR2
        rw [or64 (by omega) (by omega), ← hs, ← hX, ← HRR.out, Nat.mul_comm x, Nat.or_comm]
        rw [orNat (by rw [HRR.out]; exact hcR)]
        omega
      rw [hX, hs] at hxR2
      have h1 : (x : Int) * 2 ^ r = (X : Int) := by rw [← hX, ← HRR.out, Int.natCast_mul, Int.natCast_pow]; rfl
      have h2 : (X : Int) % 18446744073709551616 = (X : Int) := by omega
      have a1 := and32 s (by omega)
      rw [hd] at a1
      have a2 : (d : Int) % 4294967296 = (d : Int) := by omega
      have a3 : (s : Int) / 4294967296 = (c' : Int) := by omega
      have hcv : IntKind.u64.wrap (r : Int) = (r : Int) := by rw [IntKind.wrap_u64]; omega
      have hfin : num (out ++ [d]) + c' * bp (q + (i + 1)) = (a % bp (i + 1)) * (bp q * R) := by
        have h5 : num out + s * bp out.length = (a % bp (i + 1)) * (bp q * R) := by
          have h6 : bp (q + i) = bp q * bp i := by show 4294967296 ^ (q + i) = _; rw [Nat.pow_add]; rfl
          have h7 : X * bp (q + i) = x * bp i * (bp q * R) := by
            rw [← hX, h6]
            simp only [Nat.mul_assoc, Nat.mul_comm, Nat.mul_left_comm]
          rw [hlen, mod_step, hx, Nat.add_mul, ← hnum, ← hs, Nat.add_mul, h7]
          omega
        have h8 := num_carry h5
        rw [hd, hc', hlen] at h8
        exact h8
      have HF := Lib.hid hfin
      have hmodel : ∀ u : Int, True := fun _ => trivial
      clear hmodel hca hown hok hbel hlen hnum hx hX hs hd hc' hfin hxR
      go_wp2_with (at_builtin; refine app_w rfl (.tmp 29) (.tmp 33) rfl base _ out [d] rfl (O.out.alloc _) ⟨wr.heap.size, 0, none⟩ 1 rfl (news_alloc wr [f32 d] 72) (by rw [HI.out]; simp; omega) (by simp; omega) ?_; intro v1 w1 hown1 hgrow1; have O1 := Lib.hid hown1; have G1 := Lib.hid hgrow1; clear hown1 hgrow1)
      go_roundw
      case rel =>
        refine ⟨out ++ [d], c', i + 1, rfl, by push_cast; rfl, by rw [List.length_append, HI.out]; rfl, OK.out.one hdl, hc'R, by omega, HF.out, O1.out, ?_⟩
        exact (BL.out.alloc hbw _).grown G1.out (by simp; omega) (fun k hk => own_row O.out k hk)
      case measure => simp [intOf]; omega
    · obtain rfl : i = La := by omega
      have ja : ¬ (i : Int) < (i : Int) := by omega
      have hcl : c < 4294967296 := by omega
      have hfin : num (out ++ [c]) = A := by
        rw [num_one, ← HAA.out, HPW.out, hlen]
        rw [Nat.mod_eq_of_lt HA.out] at hnum
        exact hnum
      have HF := Lib.hid hfin
      have a2 : (c : Int) % 4294967296 = (c : Int) := by omega
      clear hown hok hbel hlen hnum hfin ha
      go_wp2_with (first
        | (go_at_call 99; refine (ktrim base w1.heap.size w1 _ (out ++ [c]) (Sl.owns O1.out (by rw [List.length_append, HI.out]; simp; omega)) (OK.out.one hcl)).mono ?_; rintro e w2 ⟨v2, rfl, h2, rfl⟩)
        | (at_builtin; refine app_w rfl (.tmp 37) (.tmp 40) rfl base _ out [c] rfl (O.out.alloc _) ⟨wr.heap.size, 0, none⟩ 1 rfl (news_alloc wr [f32 c] 72) (by rw [HI.out]; simp; omega) (by simp; omega) ?_; intro v1 w1 hown1 hgrow1; have O1 := Lib.hid hown1; have G1 := Lib.hid hgrow1; clear hown1 hgrow1))
      go_ret
      exact ⟨_, rfl, by rw [← HF.out]; exact h2, (BL.out.alloc hbw _).grown G1.out (by simp; omega) (fun k hk => own_row O.out k hk)⟩
end Go.Proofs.YtoodbdjmbicaeaaGreatDoor
