/- Whole numbers of the document's answer: the product. No condition. -/
import Derived.Test.YtoodbdjmbicaeaaGreatDoorWn7
namespace Go.Proofs.YtoodbdjmbicaeaaGreatDoor
open Go.RowKit
set_option maxRecDepth 8000
set_option maxHeartbeats 1000000
set_option linter.unusedVariables false
set_option linter.unusedSimpArgs false

theorem num_set {l : List Nat} : ∀ {j v : Nat}, j < l.length → num (l.set j v) + l.getD j 0 * bp j = num l + v * bp j := by
  induction l with
  | nil => intro j v h; simp at h
  | cons x l ih =>
    intro j v h
    cases j with
    | zero =>
      show v + 4294967296 * num l + x * 1 = x + 4294967296 * num l + v * 1
      omega
    | succ j =>
      have h1 := ih (j := j) (v := v) (by simpa using h)
      show x + 4294967296 * num (l.set j v) + l.getD j 0 * bp (j + 1) = x + 4294967296 * num l + v * bp (j + 1)
      rw [bp_succ, ← Nat.mul_assoc, ← Nat.mul_assoc, Nat.mul_comm _ 4294967296, Nat.mul_comm (v * bp j)]
      omega
theorem OkL.set {l : List Nat} (h : OkL l) {j v : Nat} (hv : v < 4294967296) : OkL (l.set j v) := by
  intro x hx
  rcases List.mem_or_eq_of_mem_set hx with h1 | h1
  · exact h x h1
  · omega
theorem getD_get {l : List Nat} {j : Nat} (hj : j < l.length) : l.getD j 0 = l[j] := by simp [List.getD, hj]
theorem getD_out {l : List Nat} {j : Nat} (hj : l.length ≤ j) : l.getD j 0 = 0 := by simp [List.getD, List.getElem?_eq_none hj]
theorem getD_lt {l : List Nat} (h : OkL l) (j : Nat) : l.getD j 0 < 4294967296 := by
  by_cases hj : j < l.length
  · rw [getD_get hj]; exact h _ (List.getElem_mem hj)
  · rw [getD_out (by omega)]; decide
theorem getD_high {l : List Nat} (h : OkL l) {m j : Nat} (hn : num l < bp m) (hj : m ≤ j) : l.getD j 0 = 0 := by
  by_cases hj2 : j < l.length
  · rw [getD_get hj2, get_num h j hj2]
    have : num l / 4294967296 ^ j = 0 := Nat.div_eq_of_lt (Nat.lt_of_lt_of_le hn (bp_le hj))
    rw [this]
  · rw [getD_out (by omega)]
theorem bp_add (i j : Nat) : bp (i + j) = bp i * bp j := Nat.pow_add _ _ _
/-- A cell of the row. -/
theorem own_cell {w : World} {base g n cap : Nat} {l : List Nat} (h : w.ownsRow base 72 1 (.slice (some ⟨g, 0, none⟩) n cap) n (l.map f32)) {j : Nat} (hln : l.length = n) (hj : j < l.length) :
    w.cell? ⟨g, j, none⟩ = some (.int .u32 ((l.getD j 0 : Nat) : Int)) ∧ w.frozen? ⟨g, j, none⟩ = false := by
  refine ⟨?_, h.frozenAt j⟩
  have := h.cellAt j (by omega)
  rw [this, List.getElem?_map, List.getElem?_eq_getElem hj, getD_get hj]
  rfl
/-- A cell of the row is written. -/
theorem own_set {w : World} {base g n cap : Nat} {l : List Nat} (h : w.ownsRow base 72 1 (.slice (some ⟨g, 0, none⟩) n cap) n (l.map f32)) (j x : Nat) :
    (w.setCell ⟨g, j, none⟩ (.int .u32 (x : Int))).ownsRow base 72 1 (.slice (some ⟨g, 0, none⟩) n cap) n ((l.set j x).map f32) ∧ w.grownBy (w.setCell ⟨g, j, none⟩ (.int .u32 (x : Int))) (some g) := by
  have hst := h.stored j (f32 x)
  rw [List.map_set]
  exact ⟨hst.1, hst.2⟩

theorem ktimes {lo lo' : Nat} {w : World} {v v' : Value} {a b : Nat} (h : Bg lo w v a) (h' : Bg lo' w v' b) (sa : (dig a).length ≤ 1000) (sb : (dig b).length ≤ 1000) :
    Calls Tryz.prog 77 #[v, v'] w fun e w' => ∃ u, e = .returned u ∧ Bg w.heap.size w' u (a * b) ∧ Below w.heap.size w w' := by
  obtain ⟨ao, cap, La, rfl, hL, _, hlt, h0, hp, hcell⟩ := h.open
  obtain ⟨ao', cap', Lb, rfl, hL', _, hlt', h0', hp', hcell'⟩ := h'.open
  rw [← hL] at sa
  rw [← hL'] at sb
  have hA : a < bp La := hlt
  have hB : b < bp Lb := hlt'
  have HC := Lib.hid hcell
  have HD := Lib.hid hcell'
  have HA := Lib.hid hA
  have HB := Lib.hid hB
  obtain ⟨base, hbase⟩ : ∃ base, w.heap.size = base := ⟨_, rfl⟩
  obtain ⟨i0, hi0, hz0, hz1, hz2⟩ := info_parts info78
  obtain ⟨n, hn⟩ : ∃ n, La + Lb = n := ⟨_, rfl⟩
  have hn1 : (La : Int) + (Lb : Int) = (n : Int) := by omega
  rw [hbase]
  clear hL hL' hlt hlt' h0 h0' hp hp' hcell hcell' hA hB
  go_enter Tryz.func77, Tryz.ntmps77
  go_wp2_with (at_make; refine wpList_make_full _ rfl _ _ 51 rfl base 72 i0 (.int .u32 0) 1 Tryz.underlying51 hi0 hz0 hz1 .i64 .i64 _ _ n rfl rfl rfl rfl (by rw [hz2]; omega) (by unfold maxLen; omega) (by omega) ?_; intro w3 hown3 hgrow3; rw [made_zero] at hown3; rw [hbase] at hown3; have O3 := Lib.hid hown3; have G3 := Lib.hid hgrow3; clear hown3 hgrow3)
  have hb3 : Below base w w3 := by rw [← hbase]; exact (Below.refl _ _).grown G3.out (Nat.le_refl _) (fun k hk => by cases hk)
  have B3 := Lib.hid hb3
  clear hb3
  go_loopw [6] (fun y wr => ∃ (out : List Nat) (i : Nat), y = .int .i64 (i : Int) ∧ i ≤ La ∧ out.length = n ∧ OkL out ∧ num out = (a % bp i) * b ∧ wr.ownsRow base 72 1 (.slice (some ⟨base, 0, none⟩) n n) n (out.map f32) ∧ Below base w wr) (fun y _ => La + 1 - (intOf y).toNat)
  case atStart => exact ⟨List.replicate n 0, 0, rfl, Nat.zero_le _, by simp, okl_zero n, by rw [num_zero, bp_zero, Nat.mod_one]; simp, O3.out, B3.out⟩
  case round =>
    obtain ⟨out, i, rfl, hiL, hlen, hok, hnum, hown, hbel⟩ := hrel
    have O := Lib.hid hown
    have OK := Lib.hid hok
    have BL := Lib.hid hbel
    have HI := Lib.hid hlen
    have HN := Lib.hid hnum
    by_cases ha : i < La
    · have ja : (i : Int) < (La : Int) := by omega
      have hwa : wrd a i < 4294967296 := wrd_lt _ _
      obtain ⟨x, hx⟩ : ∃ x, wrd a i = x := ⟨_, rfl⟩
      rw [hx] at hwa
      obtain ⟨ba, oa, rfl, _, _, hca⟩ := HC.out (by omega)
      have c1w : w.cell? ⟨ba, oa + i, none⟩ = some (.int .u32 (x : Int)) := by rw [hca i ha, hx]
      have hnl : num out < bp (i + Lb) := by
        rw [hnum, bp_add]
        exact Nat.mul_lt_mul'' (Nat.mod_lt _ (bp_pos i)) HB.out
      have hzero : ∀ j, i + Lb ≤ j → out.getD j 0 = 0 := fun j hj => getD_high hok hnl hj
      have HX := Lib.hid hx
      have C1 := Lib.hid c1w
      have HZ := Lib.hid hzero
      clear hca hown hok hbel hlen hnum hx hnl c1w hzero
      go_wp2_with fail
      go_loopw [7, 8] (fun z y wr => ∃ (out' : List Nat) (k c : Nat), z = .int .u64 (c : Int) ∧ y = .int .i64 (k : Int) ∧ k ≤ Lb ∧ c < 4294967296 ∧ out'.length = n ∧ OkL out' ∧ num out' + c * bp (i + k) = (a % bp i) * b + x * (b % bp k) * bp i ∧ (∀ j, i + Lb ≤ j → out'.getD j 0 = 0) ∧ wr.ownsRow base 72 1 (.slice (some ⟨base, 0, none⟩) n n) n (out'.map f32) ∧ Below base w wr) (fun _ y _ => Lb + 1 - (intOf y).toNat)
      case atStart => exact ⟨out, 0, 0, rfl, rfl, Nat.zero_le _, by decide, HI.out, OK.out, by rw [HN.out, bp_zero, Nat.mod_one]; simp, HZ.out, O.out, BL.out⟩
      case round =>
        obtain ⟨out', k, c, rfl, rfl, hkL, hcl, hlen, hok, hnum, hzero, hown, hbel⟩ := hrel
        have O := Lib.hid hown
        have OK := Lib.hid hok
        have BL := Lib.hid hbel
        have HI := Lib.hid hlen
        have HZ := Lib.hid hzero
        by_cases hb : k < Lb
        · have jb : (k : Int) < (Lb : Int) := by omega
          have hwb : wrd b k < 4294967296 := wrd_lt _ _
          obtain ⟨y, hy⟩ : ∃ y, wrd b k = y := ⟨_, rfl⟩
          rw [hy] at hwb
          obtain ⟨bb, ob, rfl, _, _, hcb⟩ := HD.out (by omega)
          have c1 : wr.cell? ⟨ba, oa + i, none⟩ = some (.int .u32 (x : Int)) := (World.cell?_of_block (BL.out.block ba (by omega))).trans C1.out
          have c2 : wr.cell? ⟨bb, ob + k, none⟩ = some (.int .u32 (y : Int)) := (World.cell?_of_block (BL.out.block bb (by omega))).trans (by rw [hcb k hb, hy])
          obtain ⟨m, hm⟩ : ∃ m, i + k = m := ⟨_, rfl⟩
          have hm1 : (i : Int) + (k : Int) = (m : Int) := by omega
          have hmn : m < n := by omega
          obtain ⟨c3, f3⟩ := own_cell hown (j := m) hlen (by omega)
          have hol := getD_lt hok m
          obtain ⟨o, ho⟩ : ∃ o, out'.getD m 0 = o := ⟨_, rfl⟩
          rw [ho] at c3 hol
          have hxy : x * y ≤ 4294967295 * 4294967295 := Nat.mul_le_mul (by omega) (by omega)
          obtain ⟨p, hp⟩ : ∃ p, x * y = p := ⟨_, rfl⟩
          rw [hp] at hxy
          obtain ⟨s, hs⟩ : ∃ s, c + o + p = s := ⟨_, rfl⟩
          have hsl : s < 2 ^ 64 := by omega
          obtain ⟨d, hd⟩ : ∃ d, s % 4294967296 = d := ⟨_, rfl⟩
          obtain ⟨c', hc'⟩ : ∃ c', s / 4294967296 = c' := ⟨_, rfl⟩
          have hdl : d < 4294967296 := by omega
          have hc'l : c' < 4294967296 := by omega
          have a1 := and32 s hsl
          rw [hd] at a1
          have a2 : (d : Int) % 4294967296 = (d : Int) := by omega
          have a3 : (s : Int) / 4294967296 = (c' : Int) := by omega
          have a4 : (x : Int) * (y : Int) = (p : Int) := by rw [← hp]; exact (Int.natCast_mul _ _).symm
          have a5 : (c : Int) + (o : Int) + (p : Int) = (s : Int) := by omega
          have hset := num_set (l := out') (j := m) (v := d) (by omega)
          rw [ho] at hset
          have hfin : num (out'.set m d) + c' * bp (i + (k + 1)) = (a % bp i) * b + x * (b % bp (k + 1)) * bp i := by
            have h1 : bp (i + (k + 1)) = bp m * 4294967296 := by rw [← Nat.add_assoc, hm, bp_succ]
            have h2 : x * (b % bp (k + 1)) * bp i = x * (b % bp k) * bp i + p * bp m := by
              rw [mod_step, hy, Nat.mul_add, Nat.add_mul, ← hp, ← hm, bp_add]
              simp only [Nat.mul_assoc, Nat.mul_comm, Nat.mul_left_comm]
            have h3 : d * bp m + c' * (bp m * 4294967296) = s * bp m := by
              rw [Nat.mul_comm (bp m), ← Nat.mul_assoc, ← Nat.add_mul]
              congr 1
              omega
            have h4 : s * bp m = c * bp m + o * bp m + p * bp m := by rw [← hs, Nat.add_mul, Nat.add_mul]
            rw [hm] at hnum
            rw [h1, h2]
            omega
          have HF := Lib.hid hfin
          have i1 : (0 : Int) ≤ (m : Int) ∧ (m : Int) < (n : Int) := by omega
          have i2 : (0 : Int) ≤ (i : Int) := by omega
          have i3 : (0 : Int) ≤ (k : Int) := by omega
          clear hown hok hbel hlen hnum hzero hcb hy hm ho hp hs hd hc' hset hfin
          go_wp2
          go_quiet (fail)
          go_wp2
          go_roundw
          case rel =>
            have od : (wr.drewN nq).ownsRow base 72 1 (.slice (some ⟨base, 0, none⟩) n n) n (out'.map f32) := O.out
            have bd : Below base wr (wr.drewN nq) := ⟨rfl, rfl, rfl, Nat.le_refl _, fun _ _ => rfl⟩
            obtain ⟨own', grow'⟩ := own_set od m d
            refine ⟨out'.set m d, k + 1, c', rfl, by push_cast; rfl, by omega, hc'l, by rw [List.length_set]; exact HI.out, OK.out.set hdl, HF.out, fun j hj => ?_, own', (BL.out.trans bd).grown grow' (by rw [← hbase]; exact BL.out.size) (fun k hk => by injection hk with hk; omega)⟩
            have := HZ.out j hj
            simp only [List.getD, List.getElem?_set_ne (show m ≠ j by omega)] at this ⊢
            exact this
          case measure => simp [intOf]; omega
        · obtain rfl : k = Lb := by omega
          have jb : ¬ (k : Int) < (k : Int) := by omega
          obtain ⟨m, hm⟩ : ∃ m, i + k = m := ⟨_, rfl⟩
          have hm1 : (i : Int) + (k : Int) = (m : Int) := by omega
          have hmn : m < n := by omega
          obtain ⟨c3, f3⟩ := own_cell hown (j := m) hlen (by omega)
          have ho := hzero m (by omega)
          rw [ho] at c3
          have a2 : (c : Int) % 4294967296 = (c : Int) := by omega
          have hset := num_set (l := out') (j := m) (v := c) (by omega)
          rw [ho, Nat.zero_mul, Nat.add_zero] at hset
          have hfin : num (out'.set m c) = (a % bp (i + 1)) * b := by
            rw [hset, ← hm, hnum, Nat.mod_eq_of_lt HB.out, mod_step, HX.out, Nat.add_mul]
            congr 1
            simp only [Nat.mul_assoc, Nat.mul_comm, Nat.mul_left_comm]
          have HF := Lib.hid hfin
          obtain ⟨own', grow'⟩ := own_set hown m c
          have O' := Lib.hid own'
          have G' := Lib.hid grow'
          have i1 : (0 : Int) ≤ (m : Int) ∧ (m : Int) < (n : Int) := by omega
          clear hown hok hbel hlen hnum hzero hm ho hset hfin own' grow' hb
          go_wp2
          go_roundw
          case rel =>
            exact ⟨out'.set m c, i + 1, by push_cast; rfl, by omega, by rw [List.length_set]; exact HI.out, OK.out.set hcl, HF.out, O'.out, BL.out.grown G'.out (by rw [← hbase]; exact BL.out.size) (fun k hk => by injection hk with hk; omega)⟩
          case measure => simp [intOf]; omega
    · obtain rfl : i = La := by omega
      have ja : ¬ (i : Int) < (i : Int) := by omega
      have hfin : num out = a * b := by rw [HN.out, Nat.mod_eq_of_lt HA.out]
      have HF := Lib.hid hfin
      clear hown hok hbel hlen hnum hfin ha
      go_wp2_with (go_at_call 99; refine (ktrim base wr.heap.size wr _ out (Sl.owns (by rw [HI.out]; exact O.out) (by rw [HI.out]; omega)) OK.out).mono ?_; rintro e w2 ⟨v2, rfl, h2, rfl⟩)
      go_ret
      exact ⟨_, rfl, by rw [← HF.out]; exact h2, BL.out⟩
end Go.Proofs.YtoodbdjmbicaeaaGreatDoor
