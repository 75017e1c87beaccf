/- Whole numbers of the document's answer: the sum. No condition. -/
import Derived.Test.YtoodbdjmbicaeaaGreatDoorQ1
namespace Go.Proofs.YtoodbdjmbicaeaaGreatDoor
open Go.RowKit
set_option maxRecDepth 8000
set_option maxHeartbeats 1000000
set_option linter.unusedVariables false

theorem bp_pos (i : Nat) : 0 < bp i := b_pos i
theorem bp_succ (i : Nat) : bp (i + 1) = bp i * 4294967296 := b_succ i
theorem bp_le {i j : Nat} (h : i ≤ j) : bp i ≤ bp j := Nat.pow_le_pow_right (by decide) h
theorem mod_step (a i : Nat) : a % bp (i + 1) = a % bp i + wrd a i * bp i := by
  unfold wrd
  show a % bp (i + 1) = a % bp i + a / bp i % 4294967296 * bp i
  rw [bp_succ, Nat.mod_mul, Nat.mul_comm (bp i)]
theorem wrd_zero {a i : Nat} (h : a < bp i) : wrd a i = 0 := by
  unfold wrd
  have : a / 4294967296 ^ i = 0 := Nat.div_eq_of_lt h
  rw [this]
theorem and32 (s : Nat) (h : s < 2 ^ 64) : bits .and .u64 (s : Int) 4294967295 = ((s % 4294967296 : Nat) : Int) := by
  show IntKind.u64.wrap ((BitVec.ofInt 64 (s : Int) &&& BitVec.ofInt 64 4294967295).toNat : Int) = _
  rw [BitVec.toNat_and, toNat_of s h, show (BitVec.ofInt 64 (4294967295 : Int)).toNat = 2 ^ 32 - 1 by decide, Nat.and_two_pow_sub_one_eq_mod]
  exact wrap_u64 (by omega)
theorem wrap32 {d : Nat} (h : d < 4294967296) : IntKind.u32.wrap (d : Int) = (d : Int) := by rw [IntKind.wrap_u32']; omega
/-- A word more at the end, what is more than a word carried on. -/
theorem num_carry {out : List Nat} {s R : Nat} (h : num out + s * bp out.length = R) : num (out ++ [s % 4294967296]) + s / 4294967296 * bp (out.length + 1) = R := by
  rw [num_one, bp_succ, ← h, Nat.add_assoc]
  congr 1
  show s % 4294967296 * bp out.length + _ = _
  rw [Nat.mul_comm (bp out.length), ← Nat.mul_assoc, ← Nat.add_mul]
  congr 1
  omega

theorem kplus {lo lo' : Nat} {w : World} {v v' : Value} {a b : Nat} (h : Bg lo w v a) (h' : Bg lo' w v' b) (sa : (dig a).length ≤ 1000) (sb : (dig b).length ≤ 1000) :
    Calls Tryz.prog 85 #[v, v'] w fun e w' => ∃ u, e = .returned u ∧ Bg w.heap.size w' u (a + b) ∧ Below w.heap.size w w' := by
  obtain ⟨ao, cap, La, rfl, hL, _, hlt, h0, hp, hcell⟩ := h.open
  obtain ⟨ao', cap', Lb, rfl, hL', _, hlt', h0', hp', hcell'⟩ := h'.open
  rw [← hL] at sa
  rw [← hL'] at sb
  have hA : a < bp La := hlt
  have hB : b < bp Lb := hlt'
  have HC := Lib.hid hcell
  have HD := Lib.hid hcell'
  have HA := Lib.hid hA
  have HB := Lib.hid hB
  obtain ⟨base, hbase⟩ : ∃ base, w.heap.size = base := ⟨_, rfl⟩
  rw [hbase]
  clear hL hL' hlt hlt' h0 h0' hp hp' hcell hcell' hA hB
  go_enter Tryz.func85, Tryz.ntmps85
  go_wp2_with fail
  go_loopw [5, 6, 7] (fun u x y wr => ∃ (out : List Nat) (c : Nat), x = .int .u64 (c : Int) ∧ y = .int .i64 (out.length : Int) ∧ OkL out ∧ c ≤ 1 ∧ out.length ≤ max La Lb + 1 ∧ num out + c * bp out.length = a % bp out.length + b % bp out.length ∧ wr.ownsRow base 72 1 u out.length (out.map f32) ∧ Below base w wr) (fun _ _ y _ => max La Lb + 2 - (intOf y).toNat)
  case atStart => exact ⟨[], 0, rfl, rfl, (fun x hx => by cases hx), by omega, Nat.zero_le _, by simp [num, bp_zero, Nat.mod_one], World.ownsRow_nil _ _ _ _, by rw [← hbase]; exact Below.refl _ _⟩
  case round =>
    obtain ⟨out, c, rfl, rfl, hok, hc1, hlen, hnum, hown, hbel⟩ := hrel
    have O := Lib.hid hown
    have OK := Lib.hid hok
    have HN := Lib.hid hnum
    have BL := Lib.hid hbel
    obtain ⟨i, hi⟩ : ∃ i, out.length = i := ⟨_, rfl⟩
    have HI := Lib.hid hi
    have hbw : base ≤ wr.heap.size := by rw [← hbase]; exact hbel.size
    have hwa : wrd a i < 4294967296 := wrd_lt _ _
    have hwb : wrd b i < 4294967296 := wrd_lt _ _
    rw [hi] at hnum hlen ⊢
    obtain ⟨x, hx⟩ : ∃ x, wrd a i = x := ⟨_, rfl⟩
    obtain ⟨y, hy⟩ : ∃ y, wrd b i = y := ⟨_, rfl⟩
    rw [hx] at hwa
    rw [hy] at hwb
    have hxz : La ≤ i → x = 0 := fun h => by rw [← hx]; exact wrd_zero (Nat.lt_of_lt_of_le HA.out (bp_le h))
    have hyz : Lb ≤ i → y = 0 := fun h => by rw [← hy]; exact wrd_zero (Nat.lt_of_lt_of_le HB.out (bp_le h))
    have hstep : ∀ s, s = c + x + y → num out + s * bp i = a % bp (i + 1) + b % bp (i + 1) := by
      intro s hs
      rw [mod_step, mod_step, hx, hy, hs, Nat.add_mul, Nat.add_mul]
      omega
    have hend : La ≤ i → Lb ≤ i → num out + c * bp i = a + b := fun h1 h2 => by
      rw [hnum, Nat.mod_eq_of_lt (Nat.lt_of_lt_of_le HA.out (bp_le h1)), Nat.mod_eq_of_lt (Nat.lt_of_lt_of_le HB.out (bp_le h2))]
    have hcar : i = max La Lb + 1 → c = 0 := fun h1 => by
      have h2 := hend (by omega) (by omega)
      have h3 := Nat.lt_of_lt_of_le HA.out (bp_le (show La ≤ max La Lb by omega))
      have h4 := Nat.lt_of_lt_of_le HB.out (bp_le (show Lb ≤ max La Lb by omega))
      rw [h1, bp_succ] at h2
      have h5 : c = 0 ∨ c = 1 := by omega
      rcases h5 with h5 | h5
      · exact h5
      · rw [h5, Nat.one_mul] at h2
        omega
    have HX := Lib.hid hx
    have HY := Lib.hid hy
    have HST := Lib.hid hstep
    have HEN := Lib.hid hend
    obtain ⟨s, hs⟩ : ∃ s, s = c + x + y := ⟨_, rfl⟩
    have hsl : s < 2 ^ 64 := by omega
    obtain ⟨d, hd⟩ : ∃ d, s % 4294967296 = d := ⟨_, rfl⟩
    obtain ⟨c', hc'⟩ : ∃ c', s / 4294967296 = c' := ⟨_, rfl⟩
    have a1 := and32 s hsl
    rw [hd] at a1
    have hdl : d < 4294967296 := by omega
    have a2 : (d : Int) % 4294967296 = (d : Int) := by omega
    have a3 : (s : Int) / 4294967296 = (c' : Int) := by omega
    have hc'1 : c' ≤ 1 := by omega
    have hokd : OkL (out ++ [d]) := hok.one hdl
    have hnumd : num (out ++ [d]) + c' * bp (i + 1) = a % bp (i + 1) + b % bp (i + 1) := by
      have := num_carry (out := out) (s := s) (R := a % bp (i + 1) + b % bp (i + 1)) (by rw [hi]; exact hstep s hs)
      rw [hd, hc', hi] at this
      exact this
    have OKD := Lib.hid hokd
    have NUMD := Lib.hid hnumd
    clear hown hok hnum hbel hi hx hy hstep hend hd hc' hokd hnumd
    by_cases ha : i < La <;> by_cases hb : i < Lb
    · have ja : (i : Int) < (La : Int) := by omega
      have jb : (i : Int) < (Lb : Int) := by omega
      obtain ⟨ba, oa, rfl, _, _, hca⟩ := HC.out (by omega)
      have c1 : wr.cell? ⟨ba, oa + i, none⟩ = some (.int .u32 (x : Int)) := (World.cell?_of_block (BL.out.block ba (by omega))).trans (by rw [hca i ha, HX.out])
      clear hca
      obtain ⟨bb, ob, rfl, _, _, hcb⟩ := HD.out (by omega)
      have c2 : wr.cell? ⟨bb, ob + i, none⟩ = some (.int .u32 (y : Int)) := (World.cell?_of_block (BL.out.block bb (by omega))).trans (by rw [hcb i hb, HY.out])
      clear hcb
      have es : (c : Int) + (x : Int) + (y : Int) = (s : Int) := by omega
      rw [← es] at a1 a3
      clear es
      clear hxz hyz hcar
      go_wp2_with (at_builtin; refine app_w rfl (.tmp 46) (.tmp 50) rfl base _ out [d] rfl (O.out.alloc _) ⟨wr.heap.size, 0, none⟩ 1 rfl (news_alloc wr [f32 d] 72) (by rw [HI.out]; simp; omega) (by simp; omega) ?_; intro v1 w1 hown1 hgrow1; have O1 := Lib.hid hown1; have G1 := Lib.hid hgrow1; clear hown1 hgrow1)
      go_roundw
      case rel =>
        refine ⟨out ++ [d], c', rfl, by rw [List.length_append, HI.out]; rfl, OKD.out, hc'1, by rw [List.length_append, HI.out]; simp; omega, by rw [List.length_append, HI.out]; exact NUMD.out, O1.out, ?_⟩
        exact (BL.out.alloc hbw _).grown G1.out (by simp; omega) (fun k hk => own_row O.out k hk)
      case measure => simp [intOf]; omega
    · have ja : (i : Int) < (La : Int) := by omega
      have jb : ¬ (i : Int) < (Lb : Int) := by omega
      obtain ⟨ba, oa, rfl, _, _, hca⟩ := HC.out (by omega)
      have c1 : wr.cell? ⟨ba, oa + i, none⟩ = some (.int .u32 (x : Int)) := (World.cell?_of_block (BL.out.block ba (by omega))).trans (by rw [hca i ha, HX.out])
      clear hca
      have hy0 := hyz (by omega)
      have es : (c : Int) + (x : Int) = (s : Int) := by omega
      rw [← es] at a1 a3
      clear es
      clear hxz hyz hcar
      go_wp2_with (at_builtin; refine app_w rfl (.tmp 46) (.tmp 50) rfl base _ out [d] rfl (O.out.alloc _) ⟨wr.heap.size, 0, none⟩ 1 rfl (news_alloc wr [f32 d] 72) (by rw [HI.out]; simp; omega) (by simp; omega) ?_; intro v1 w1 hown1 hgrow1; have O1 := Lib.hid hown1; have G1 := Lib.hid hgrow1; clear hown1 hgrow1)
      go_roundw
      case rel =>
        refine ⟨out ++ [d], c', rfl, by rw [List.length_append, HI.out]; rfl, OKD.out, hc'1, by rw [List.length_append, HI.out]; simp; omega, by rw [List.length_append, HI.out]; exact NUMD.out, O1.out, ?_⟩
        exact (BL.out.alloc hbw _).grown G1.out (by simp; omega) (fun k hk => own_row O.out k hk)
      case measure => simp [intOf]; omega
    · have ja : ¬ (i : Int) < (La : Int) := by omega
      have jb : (i : Int) < (Lb : Int) := by omega
      have hx0 := hxz (by omega)
      obtain ⟨bb, ob, rfl, _, _, hcb⟩ := HD.out (by omega)
      have c2 : wr.cell? ⟨bb, ob + i, none⟩ = some (.int .u32 (y : Int)) := (World.cell?_of_block (BL.out.block bb (by omega))).trans (by rw [hcb i hb, HY.out])
      clear hcb
      have es : (c : Int) + (y : Int) = (s : Int) := by omega
      rw [← es] at a1 a3
      clear es
      clear hxz hyz hcar
      go_wp2_with (at_builtin; refine app_w rfl (.tmp 46) (.tmp 50) rfl base _ out [d] rfl (O.out.alloc _) ⟨wr.heap.size, 0, none⟩ 1 rfl (news_alloc wr [f32 d] 72) (by rw [HI.out]; simp; omega) (by simp; omega) ?_; intro v1 w1 hown1 hgrow1; have O1 := Lib.hid hown1; have G1 := Lib.hid hgrow1; clear hown1 hgrow1)
      go_roundw
      case rel =>
        refine ⟨out ++ [d], c', rfl, by rw [List.length_append, HI.out]; rfl, OKD.out, hc'1, by rw [List.length_append, HI.out]; simp; omega, by rw [List.length_append, HI.out]; exact NUMD.out, O1.out, ?_⟩
        exact (BL.out.alloc hbw _).grown G1.out (by simp; omega) (fun k hk => own_row O.out k hk)
      case measure => simp [intOf]; omega
    · have ja : ¬ (i : Int) < (La : Int) := by omega
      have jb : ¬ (i : Int) < (Lb : Int) := by omega
      have hx0 := hxz (by omega)
      have hy0 := hyz (by omega)
      clear hxz hyz
      by_cases hc0 : c = 0
      · subst hc0
        go_wp2_with (go_at_call 99; refine (ktrim base wr.heap.size wr _ out (Sl.owns O.out (by rw [HI.out]; omega)) OK.out).mono ?_; rintro e w2 ⟨v2, rfl, h2, rfl⟩)
        go_ret
        refine ⟨_, rfl, ?_, BL.out⟩
        have := HEN.out (by omega) (by omega)
        rw [Nat.zero_mul, Nat.add_zero] at this
        rw [← this]
        exact h2
      · have hc2 : c = 1 := by omega
        have hsc : s = c := by omega
        clear hs hx0 hy0
        subst hsc
        have him : i ≤ max La Lb := by
          refine Nat.le_of_not_lt fun h => hc0 (hcar (by omega))
        clear hcar
        have hcp : (0 : Int) < (s : Int) := by omega
        clear hc2 hc0
        go_wp2_with (at_builtin; refine app_w rfl (.tmp 46) (.tmp 50) rfl base _ out [d] rfl (O.out.alloc _) ⟨wr.heap.size, 0, none⟩ 1 rfl (news_alloc wr [f32 d] 72) (by rw [HI.out]; simp; omega) (by simp; omega) ?_; intro v1 w1 hown1 hgrow1; have O1 := Lib.hid hown1; have G1 := Lib.hid hgrow1; clear hown1 hgrow1)
        go_roundw
        case rel =>
          refine ⟨out ++ [d], c', rfl, by rw [List.length_append, HI.out]; rfl, OKD.out, hc'1, by rw [List.length_append, HI.out]; simp; omega, by rw [List.length_append, HI.out]; exact NUMD.out, O1.out, ?_⟩
          exact (BL.out.alloc hbw _).grown G1.out (by simp; omega) (fun k hk => own_row O.out k hk)
        case measure => simp [intOf]; omega
end Go.Proofs.YtoodbdjmbicaeaaGreatDoor
