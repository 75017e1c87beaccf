/- Whole numbers of the document's answer: the difference. No condition. -/
import Derived.Test.YtoodbdjmbicaeaaGreatDoorWn4
namespace Go.Proofs.YtoodbdjmbicaeaaGreatDoor
open Go.RowKit
set_option maxRecDepth 8000
set_option maxHeartbeats 1000000
set_option linter.unusedVariables false

theorem kminus {lo lo' : Nat} {w : World} {v v' : Value} {a b : Nat} (h : Bg lo w v a) (h' : Bg lo' w v' b) (hba : b ≤ a) (sa : (dig a).length ≤ 1000) :
    Calls Tryz.prog 86 #[v, v'] w fun e w' => ∃ u, e = .returned u ∧ Bg w.heap.size w' u (a - b) ∧ Below w.heap.size w w' := by
  obtain ⟨ao, cap, La, rfl, hL, _, hlt, h0, hp, hcell⟩ := h.open
  obtain ⟨ao', cap', Lb, rfl, hL', _, hlt', h0', hp', hcell'⟩ := h'.open
  rw [← hL] at sa
  have hA : a < bp La := hlt
  have hB : b < bp Lb := hlt'
  have HC := Lib.hid hcell
  have HD := Lib.hid hcell'
  have HA := Lib.hid hA
  have HB := Lib.hid hB
  have HBA := Lib.hid hba
  obtain ⟨base, hbase⟩ : ∃ base, w.heap.size = base := ⟨_, rfl⟩
  rw [hbase]
  clear hL hL' hlt hlt' h0 h0' hp hp' hcell hcell' hA hB hba
  go_enter Tryz.func86, Tryz.ntmps86
  go_wp2_with fail
  go_loopw [5, 6, 7] (fun u x y wr => ∃ (out : List Nat) (c : Nat), x = .int .u64 (c : Int) ∧ y = .int .i64 (out.length : Int) ∧ OkL out ∧ c ≤ 1 ∧ out.length ≤ La ∧ num out + b % bp out.length = a % bp out.length + c * bp out.length ∧ wr.ownsRow base 72 1 u out.length (out.map f32) ∧ Below base w wr) (fun _ _ y _ => La + 2 - (intOf y).toNat)
  case atStart => exact ⟨[], 0, rfl, rfl, (fun x hx => by cases hx), by omega, Nat.zero_le _, by simp [num, bp_zero, Nat.mod_one], World.ownsRow_nil _ _ _ _, by rw [← hbase]; exact Below.refl _ _⟩
  case round =>
    obtain ⟨out, c, rfl, rfl, hok, hc1, hlen, hnum, hown, hbel⟩ := hrel
    have O := Lib.hid hown
    have OK := Lib.hid hok
    have BL := Lib.hid hbel
    obtain ⟨i, hi⟩ : ∃ i, out.length = i := ⟨_, rfl⟩
    have HI := Lib.hid hi
    have hbw : base ≤ wr.heap.size := by rw [← hbase]; exact hbel.size
    rw [hi] at hnum hlen ⊢
    have HN := Lib.hid hnum
    by_cases ha : i < La
    · have ja : (i : Int) < (La : Int) := by omega
      have hwa : wrd a i < 4294967296 := wrd_lt _ _
      have hwb : wrd b i < 4294967296 := wrd_lt _ _
      obtain ⟨x, hx⟩ : ∃ x, wrd a i = x := ⟨_, rfl⟩
      obtain ⟨z, hz⟩ : ∃ z, wrd b i = z := ⟨_, rfl⟩
      rw [hx] at hwa
      rw [hz] at hwb
      have hzz : Lb ≤ i → z = 0 := fun h => by rw [← hz]; exact wrd_zero (Nat.lt_of_lt_of_le HB.out (bp_le h))
      have hstep : ∀ d c', d + (c + z) = x + c' * 4294967296 → num (out ++ [d]) + b % bp (i + 1) = a % bp (i + 1) + c' * bp (i + 1) := by
        intro d c' hd
        have e : num (out ++ [d]) = num out + d * bp i := by rw [num_one, hi]; rfl
        have e2 : d * bp i + (c * bp i + z * bp i) = x * bp i + c' * bp (i + 1) := by
          rw [bp_succ, ← Nat.add_mul, ← Nat.add_mul, hd, Nat.add_mul, Nat.mul_comm (bp i), Nat.mul_assoc]
        rw [mod_step, mod_step, hx, hz, e]
        omega
      obtain ⟨ba, oa, rfl, _, _, hca⟩ := HC.out (by omega)
      have c1 : wr.cell? ⟨ba, oa + i, none⟩ = some (.int .u32 (x : Int)) := (World.cell?_of_block (BL.out.block ba (by omega))).trans (by rw [hca i ha, hx])
      have HX := Lib.hid hx
      have HZ := Lib.hid hz
      have HST := Lib.hid hstep
      clear hca hown hok hbel hi hx hz hstep hnum
      by_cases hb : i < Lb
      · have jb : (i : Int) < (Lb : Int) := by omega
        obtain ⟨bb, ob, rfl, _, _, hcb⟩ := HD.out (by omega)
        have c2 : wr.cell? ⟨bb, ob + i, none⟩ = some (.int .u32 (z : Int)) := (World.cell?_of_block (BL.out.block bb (by omega))).trans (by rw [hcb i hb, HZ.out])
        clear hcb hzz
        by_cases hxy : x < c + z
        · obtain ⟨d, hd⟩ : ∃ d, x + 4294967296 - (c + z) = d := ⟨_, rfl⟩
          have hdl : d < 4294967296 := by omega
          have hdd : d + (c + z) = x + 1 * 4294967296 := by omega
          have HDD := Lib.hid hdd
          have jx : (x : Int) < (c : Int) + (z : Int) := by omega
          have e1 : (x : Int) + 4294967296 - ((c : Int) + (z : Int)) = (d : Int) := by omega
          have e2 : (d : Int) % 4294967296 = (d : Int) := by omega
          have e3 : (d : Int) % 18446744073709551616 = (d : Int) := by omega
          clear hd hdd hxy
          go_wp2_with (at_builtin; refine app_w rfl (.tmp 38) (.tmp 43) rfl base _ out [d] rfl (O.out.alloc _) ⟨wr.heap.size, 0, none⟩ 1 rfl (news_alloc wr [f32 d] 72) (by rw [HI.out]; simp; omega) (by simp; omega) ?_; intro v1 w1 hown1 hgrow1; have O1 := Lib.hid hown1; have G1 := Lib.hid hgrow1; clear hown1 hgrow1)
          go_roundw
          case rel =>
            refine ⟨out ++ [d], 1, rfl, by rw [List.length_append, HI.out]; rfl, OK.out.one hdl, by omega, by rw [List.length_append, HI.out]; simp; omega, by rw [List.length_append, HI.out]; exact HST.out d 1 HDD.out, O1.out, ?_⟩
            exact (BL.out.alloc hbw _).grown G1.out (by simp; omega) (fun k hk => own_row O.out k hk)
          case measure => simp [intOf]; omega
        · obtain ⟨d, hd⟩ : ∃ d, x - (c + z) = d := ⟨_, rfl⟩
          have hdl : d < 4294967296 := by omega
          have hdd : d + (c + z) = x + 0 * 4294967296 := by omega
          have HDD := Lib.hid hdd
          have jx : ¬ (x : Int) < (c : Int) + (z : Int) := by omega
          have e1 : (x : Int) - ((c : Int) + (z : Int)) = (d : Int) := by omega
          have e2 : (d : Int) % 4294967296 = (d : Int) := by omega
          have e3 : (d : Int) % 18446744073709551616 = (d : Int) := by omega
          clear hd hdd hxy
          go_wp2_with (at_builtin; refine app_w rfl (.tmp 38) (.tmp 43) rfl base _ out [d] rfl (O.out.alloc _) ⟨wr.heap.size, 0, none⟩ 1 rfl (news_alloc wr [f32 d] 72) (by rw [HI.out]; simp; omega) (by simp; omega) ?_; intro v1 w1 hown1 hgrow1; have O1 := Lib.hid hown1; have G1 := Lib.hid hgrow1; clear hown1 hgrow1)
          go_roundw
          case rel =>
            refine ⟨out ++ [d], 0, rfl, by rw [List.length_append, HI.out]; rfl, OK.out.one hdl, by omega, by rw [List.length_append, HI.out]; simp; omega, by rw [List.length_append, HI.out]; exact HST.out d 0 HDD.out, O1.out, ?_⟩
            exact (BL.out.alloc hbw _).grown G1.out (by simp; omega) (fun k hk => own_row O.out k hk)
          case measure => simp [intOf]; omega
      · have jb : ¬ (i : Int) < (Lb : Int) := by omega
        have hz0 := hzz (by omega)
        clear hzz
        by_cases hxy : x < c + z
        · obtain ⟨d, hd⟩ : ∃ d, x + 4294967296 - (c + z) = d := ⟨_, rfl⟩
          have hdl : d < 4294967296 := by omega
          have hdd : d + (c + z) = x + 1 * 4294967296 := by omega
          have HDD := Lib.hid hdd
          have jx : (x : Int) < (c : Int) := by omega
          have e1 : (x : Int) + 4294967296 - ((c : Int)) = (d : Int) := by omega
          have e2 : (d : Int) % 4294967296 = (d : Int) := by omega
          have e3 : (d : Int) % 18446744073709551616 = (d : Int) := by omega
          clear hd hdd hxy hz0
          go_wp2_with (at_builtin; refine app_w rfl (.tmp 38) (.tmp 43) rfl base _ out [d] rfl (O.out.alloc _) ⟨wr.heap.size, 0, none⟩ 1 rfl (news_alloc wr [f32 d] 72) (by rw [HI.out]; simp; omega) (by simp; omega) ?_; intro v1 w1 hown1 hgrow1; have O1 := Lib.hid hown1; have G1 := Lib.hid hgrow1; clear hown1 hgrow1)
          go_roundw
          case rel =>
            refine ⟨out ++ [d], 1, rfl, by rw [List.length_append, HI.out]; rfl, OK.out.one hdl, by omega, by rw [List.length_append, HI.out]; simp; omega, by rw [List.length_append, HI.out]; exact HST.out d 1 HDD.out, O1.out, ?_⟩
            exact (BL.out.alloc hbw _).grown G1.out (by simp; omega) (fun k hk => own_row O.out k hk)
          case measure => simp [intOf]; omega
        · obtain ⟨d, hd⟩ : ∃ d, x - (c + z) = d := ⟨_, rfl⟩
          have hdl : d < 4294967296 := by omega
          have hdd : d + (c + z) = x + 0 * 4294967296 := by omega
          have HDD := Lib.hid hdd
          have jx : ¬ (x : Int) < (c : Int) := by omega
          have e1 : (x : Int) - ((c : Int)) = (d : Int) := by omega
          have e2 : (d : Int) % 4294967296 = (d : Int) := by omega
          have e3 : (d : Int) % 18446744073709551616 = (d : Int) := by omega
          clear hd hdd hxy hz0
          go_wp2_with (at_builtin; refine app_w rfl (.tmp 38) (.tmp 43) rfl base _ out [d] rfl (O.out.alloc _) ⟨wr.heap.size, 0, none⟩ 1 rfl (news_alloc wr [f32 d] 72) (by rw [HI.out]; simp; omega) (by simp; omega) ?_; intro v1 w1 hown1 hgrow1; have O1 := Lib.hid hown1; have G1 := Lib.hid hgrow1; clear hown1 hgrow1)
          go_roundw
          case rel =>
            refine ⟨out ++ [d], 0, rfl, by rw [List.length_append, HI.out]; rfl, OK.out.one hdl, by omega, by rw [List.length_append, HI.out]; simp; omega, by rw [List.length_append, HI.out]; exact HST.out d 0 HDD.out, O1.out, ?_⟩
            exact (BL.out.alloc hbw _).grown G1.out (by simp; omega) (fun k hk => own_row O.out k hk)
          case measure => simp [intOf]; omega
    · have hiL : i = La := by omega
      have hc0 : num out = a - b := by
        have h1 := num_lt OK.out
        rw [HI.out, hiL] at h1
        have h1' : num out < bp La := h1
        rw [hiL, Nat.mod_eq_of_lt HA.out, Nat.mod_eq_of_lt (Nat.lt_of_le_of_lt HBA.out HA.out)] at hnum
        have h2 := HBA.out
        have h5 : c = 0 ∨ c = 1 := by omega
        rcases h5 with h5 | h5
        · rw [h5, Nat.zero_mul] at hnum; omega
        · rw [h5, Nat.one_mul] at hnum; omega
      have ja : ¬ (i : Int) < (La : Int) := by omega
      have HC0 := Lib.hid hc0
      clear hown hok hbel hi hnum hc0 hiL
      go_wp2_with (go_at_call 99; refine (ktrim base wr.heap.size wr _ out (Sl.owns O.out (by rw [HI.out]; omega)) OK.out).mono ?_; rintro e w2 ⟨v2, rfl, h2, rfl⟩)
      go_ret
      exact ⟨_, rfl, by rw [← HC0.out]; exact h2, BL.out⟩
end Go.Proofs.YtoodbdjmbicaeaaGreatDoor
