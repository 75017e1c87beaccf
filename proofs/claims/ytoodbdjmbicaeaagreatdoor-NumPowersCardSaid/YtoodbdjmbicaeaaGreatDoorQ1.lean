/- Whole numbers of the document's answer: trim, From. No condition. -/
import Derived.Test.YtoodbdjmbicaeaaGreatDoorNum2
import Derived.Test.YtoodbdjmbicaeaaGreatDoorP2
import Derived.Test.YtoodbdjmbicaeaaGreatDoorP4
import Derived.Deep.QuietTactic
import Derived.BigQuiet
section
namespace Go.Proofs.YtoodbdjmbicaeaaGreatDoor
open Go.RowKit
set_option maxRecDepth 8000
set_option linter.unusedVariables false

/-- A word of 32 bits in its cell. -/
def f32 (x : Nat) : Value := .int .u32 (x : Int)
/-- v is the number n, as the program has it. -/
abbrev Bg (lo : Nat) (w : World) (v : Value) (n : Nat) : Prop := Sl lo w.heap.size f32 w v (dig n)

theorem info78 : (Tryz.prog.info? 72).map (fun i => (i.zero, i.size, i.bytes)) = some (some (.int .u32 0), 1, 4) := by kernel_rfl
theorem info_parts {P : Program} {t : TypeId} {z : Option Value} {s b : Nat} (h : (P.info? t).map (fun i => (i.zero, i.size, i.bytes)) = some (z, s, b)) : ∃ i, P.info? t = some i ∧ i.zero = z ∧ i.size = s ∧ i.bytes = b := by
  cases hi : P.info? t with
  | none => rw [hi] at h; cases h
  | some i =>
    rw [hi] at h
    simp only [Option.map_some, Option.some.injEq, Prod.mk.injEq] at h
    exact ⟨i, rfl, h⟩
theorem f32_one (l : List Nat) : ∀ u ∈ l.map f32, u.oneCell' = true := by
  intro u hu
  obtain ⟨_, _, rfl⟩ := List.mem_map.1 hu
  rfl
theorem app_w {w : World} {ops : Array Oper} {rest : List Oper} {o : Oper} {a : Act} {Q : Exit → Act → World → Prop} (hgd : o.guard = none) (s x : Operand)
    (ho : o.op = .call { callee := .builtin .append, args := #[s, x], argTypes := #[51, 51] }) (base : Nat) (v : Value) (l m : List Nat) (hs : a.eval s = v)
    (hown : w.ownsRow base 72 1 v l.length (l.map f32)) (ad : Addr) (c : Nat) (hx : a.eval x = .slice (some ad) m.length c) (hnews : ∀ j u, (m.map f32)[j]? = some u → w.cell? (ad.add j) = some u)
    (hlen : l.length + m.length ≤ 1000000) (hbase : base ≤ w.heap.size)
    (h : ∀ v' w', w'.ownsRow base 72 1 v' (l ++ m).length ((l ++ m).map f32) → w.grownBy w' v.ownBlock → wpList Tryz.prog ops Q rest (a.put o.dst v') w') : wpList Tryz.prog ops Q (o :: rest) a w := by
  obtain ⟨i0, hi0, hz0, hz1, hz2⟩ := info_parts info78
  refine wpList_append_own w hgd s x 51 ho base 72 i0 (.int .u32 0) 1 4 Tryz.underlying51 hi0 hz0 hz1 hz2 rfl (by decide) v l.length _ hs hown ad m.length c (m.map f32) hx (by simp) hnews (f32_one m) (by unfold maxLen; omega) (by omega) hbase (fun v' w' h1 h2 _ => h v' w' ?_ h2)
  rw [List.length_append, List.map_append]
  exact h1

theorem trimmed {l : List Nat} (h : OkL l) (hl : ∀ h : l ≠ [], l.getLast h ≠ 0) : l = dig (num l) := (dig_of h hl).symm

theorem ktrim (lo hi : Nat) (w : World) (v : Value) (l : List Nat) (hv : Sl lo hi f32 w v l) (hl : OkL l) :
    Calls Tryz.prog 99 #[v] w fun e w' => ∃ v', e = .returned v' ∧ Sl lo hi f32 w v' (dig (num l)) ∧ w' = w := by
  obtain ⟨N, hN⟩ : ∃ N, num l = N := ⟨_, rfl⟩
  have HV := Lib.hid (show ∃ m, Sl lo hi f32 w v m ∧ OkL m ∧ num m = N ∧ m.length ≤ l.length from ⟨l, hv, hl, hN, Nat.le_refl _⟩)
  rw [hN]
  clear hv hl hN
  go_enter Tryz.func99, Tryz.ntmps99
  go_wp2_with fail
  go_loopw [0] (fun u wr => ∃ m, Sl lo hi f32 wr u m ∧ OkL m ∧ num m = N ∧ wr = w) (fun u _ => match u with | .slice _ n _ => n | _ => 0)
  case atStart => obtain ⟨m, h1, h2, h3, _⟩ := HV.out; exact ⟨m, h1, h2, h3, rfl⟩
  case round =>
    obtain ⟨m, hs, hok, hnum, rfl⟩ := hrel
    by_cases h0 : m = []
    · subst h0
      obtain ⟨ao, cap, rfl, hsc⟩ := hs
      have HS := Lib.hid hsc
      clear hsc
      go_wp2
      go_ret
      refine ⟨_, rfl, ?_, rfl⟩
      have e : dig N = [] := by rw [← hnum]; exact dig_zero
      rw [e]
      exact ⟨ao, cap, rfl, HS.out⟩
    · obtain ⟨ao, cap, rfl, hsc⟩ := hs
      obtain ⟨b, off, rfl, hb1, hb2, hcell⟩ := hsc.cells h0
      have hle := hsc.le
      have hlen := hsc.len
      obtain ⟨m', x, rfl⟩ : ∃ m' x, m = m' ++ [x] := ⟨m.dropLast, m.getLast h0, (List.dropLast_concat_getLast h0).symm⟩
      obtain ⟨k, hk⟩ : ∃ k, m'.length = k := ⟨_, rfl⟩
      have hk1 : (m' ++ [x]).length = k + 1 := by rw [List.length_append, hk]; rfl
      rw [hk1] at hle hlen
      have hc := hcell k (by omega)
      have e0 : (m' ++ [x])[k]'(by omega) = x := by simp [hk]
      rw [e0] at hc
      have hc2 : wr.cell? ⟨b, off + k, none⟩ = some (.int .u32 (x : Int)) := hc
      have HC := Lib.hid hcell
      have hsl' : Sl lo hi f32 wr (.slice (some ⟨b, off, none⟩) k cap) m' := by
        refine ⟨some ⟨b, off, none⟩, cap, by rw [hk], by omega, (fun h => by cases h), fun hne => ⟨b, off, rfl, hb1, hb2, fun j hj => ?_⟩, by omega⟩
        rw [hcell j (by omega)]
        simp [hj]
      have HS := Lib.hid hsl'
      have HK := Lib.hid hok
      have HN := Lib.hid hnum
      have HM := Lib.hid hsc
      have hs2 : ((k : Int) + 1) - 1 = (k : Int) := by omega
      have HK1 := Lib.hid hk1
      rw [hk1]
      clear hcell hsc hc hok hnum hsl' h0 e0 hk hk1
      by_cases hx : x = 0
      · subst hx
        have i1 : (0 : Int) ≤ (k : Int) ∧ (k : Int) < (k : Int) + 1 := by omega
        go_wp2
        go_roundw
        case rel =>
          refine ⟨m', HS.out, fun y hy => HK.out y (List.mem_append_left _ hy), ?_, trivial⟩
          have := HN.out
          rw [num_one, Nat.zero_mul, Nat.add_zero] at this
          exact this
        case measure => simp
      · have i1 : (0 : Int) ≤ (k : Int) ∧ (k : Int) < (k : Int) + 1 := by omega
        have hx2 : ((x : Int) == 0) = false := by simpa using hx
        go_wp2
        go_ret
        refine ⟨.slice (some ⟨b, off, none⟩) (k + 1) cap, rfl, ?_, rfl⟩
        have e : dig N = m' ++ [x] := by
          rw [← HN.out]
          exact dig_of HK.out (fun h => by simpa using hx)
        rw [e]
        exact ⟨some ⟨b, off, none⟩, cap, by rw [HK1.out], HM.out⟩

/-- A number of 64 bits. -/
theorem kfrom {n : Nat} (hn : n < 2 ^ 64) (w : World) :
    Calls Tryz.prog 69 #[wd n] w fun e w' => ∃ v', e = .returned v' ∧ Bg w.heap.size w' v' n ∧ Below w.heap.size w w' := by
  obtain ⟨lo, hlo⟩ : ∃ lo, n % 4294967296 = lo := ⟨_, rfl⟩
  obtain ⟨hi, hhi⟩ : ∃ hi, n / 4294967296 = hi := ⟨_, rfl⟩
  have b1 : bits .and .u64 (n : Int) 4294967295 = (lo : Int) := by
    show IntKind.u64.wrap ((BitVec.ofInt 64 (n : Int) &&& BitVec.ofInt 64 4294967295).toNat : Int) = _
    rw [BitVec.toNat_and, toNat_of n hn, show (BitVec.ofInt 64 (4294967295 : Int)).toNat = 2 ^ 32 - 1 by decide, Nat.and_two_pow_sub_one_eq_mod, ← hlo]
    exact wrap_u64 (by omega)
  have b2 : IntKind.u32.wrap (lo : Int) = (lo : Int) := by rw [IntKind.wrap_u32']; omega
  have b3 : (n : Int) / 4294967296 = (hi : Int) := by omega
  have b4 : IntKind.u32.wrap (hi : Int) = (hi : Int) := by rw [IntKind.wrap_u32']; omega
  have hok : OkL [lo, hi] := by intro x hx; simp at hx; omega
  have hnum : num [lo, hi] = n := by simp [num]; omega
  have HK := Lib.hid hok
  have HN := Lib.hid hnum
  clear hlo hhi hok hnum hn
  go_enter Tryz.func69, Tryz.ntmps69
  go_wp2_with (first
    | (go_at_call 99; refine (ktrim w.heap.size w1.heap.size w1 _ [lo, hi] (Sl.owns O1.out (by simp)) HK.out).mono ?_; rintro e w2 ⟨v2, rfl, h2, rfl⟩; rw [HN.out] at h2)
    | (at_builtin; refine app_w rfl (.tmp 4) (.tmp 11) rfl w.heap.size (.slice none 0 0) [] [lo, hi] rfl (World.ownsRow_nil _ _ _ _) ⟨w.heap.size, 0, none⟩ 2 rfl (news_alloc w [f32 lo, f32 hi] 72) (by simp) (by simp) ?_; intro v1 w1 hown1 hgrow1; have O1 := Lib.hid hown1; have G1 := Lib.hid hgrow1; clear hown1 hgrow1))
  go_ret
  exact ⟨_, rfl, h2, ((Below.refl _ _).alloc (Nat.le_refl _) _).grown G1.out (by simp) (fun k hk => by cases hk)⟩
end Go.Proofs.YtoodbdjmbicaeaaGreatDoor
end
section
namespace Go.Proofs.YtoodbdjmbicaeaaGreatDoor
open Go.RowKit
set_option maxRecDepth 8000
set_option linter.unusedVariables false

/-- A word of a number. -/
def wrd (n j : Nat) : Nat := n / 4294967296 ^ j % 4294967296
theorem wrd_lt (n j : Nat) : wrd n j < 4294967296 := Nat.mod_lt _ (by decide)
/-- What is read of a number. -/
theorem Bg.open {lo : Nat} {w : World} {v : Value} {n : Nat} (h : Bg lo w v n) : ∃ ao cap L, v = .slice ao L cap ∧ L = (dig n).length ∧ L ≤ 140737488355328 ∧ n < 4294967296 ^ L ∧ (n = 0 → L = 0) ∧ (n ≠ 0 → 0 < L ∧ 4294967296 ^ (L - 1) ≤ n) ∧
    (0 < L → ∃ b off, ao = some ⟨b, off, none⟩ ∧ lo ≤ b ∧ b < w.heap.size ∧ ∀ j, j < L → w.cell? ⟨b, off + j, none⟩ = some (.int .u32 ((wrd n j : Nat) : Int))) := by
  obtain ⟨ao, cap, rfl, hsc⟩ := h
  refine ⟨ao, cap, _, rfl, rfl, hsc.len, dig_lt n, fun h => by rw [h, dig_zero]; rfl, dig_ge, fun h0 => ?_⟩
  obtain ⟨b, off, rfl, h1, h2, hc⟩ := hsc.cells (List.length_pos_iff.1 h0)
  refine ⟨b, off, rfl, h1, h2, fun j hj => ?_⟩
  rw [hc j hj, dig_get hj]
  rfl

theorem or64 {a b : Nat} (ha : a < 2 ^ 64) (hb : b < 2 ^ 64) : bits .or .u64 (a : Int) (b : Int) = ((a ||| b : Nat) : Int) := by
  show IntKind.u64.wrap ((BitVec.ofInt 64 (a : Int) ||| BitVec.ofInt 64 (b : Int)).toNat : Int) = _
  rw [BitVec.toNat_or, toNat_of a ha, toNat_of b hb]
  exact wrap_u64 (Nat.or_lt_two_pow ha hb)
theorem orNat {x y k : Nat} (hx : x < 2 ^ k) : x ||| 2 ^ k * y = x + 2 ^ k * y := by
  rw [Nat.or_comm, ← Nat.two_pow_add_eq_or_of_lt hx y, Nat.add_comm]
theorem klow {lo : Nat} {w : World} {v : Value} {n : Nat} (h : Bg lo w v n) : Kp 74 #[v] w (wd (n % 2 ^ 64)) := by
  obtain ⟨ao, cap, L, rfl, hL, _, hlt, h0, _, hcell⟩ := h.open
  clear hL
  have e64 : n % 2 ^ 64 = wrd n 0 + wrd n 1 * 4294967296 := by unfold wrd; simp only [Nat.pow_zero, Nat.div_one, Nat.pow_one]; omega
  rw [e64]
  obtain ⟨x, hx⟩ : ∃ x, wrd n 0 = x := ⟨_, rfl⟩
  obtain ⟨y, hy⟩ : ∃ y, wrd n 1 = y := ⟨_, rfl⟩
  have hxl : x < 4294967296 := by rw [← hx]; exact wrd_lt _ _
  have hyl : y < 4294967296 := by rw [← hy]; exact wrd_lt _ _
  rw [hx, hy]
  by_cases hL0 : L = 0
  · have hn : n = 0 := by rw [hL0, Nat.pow_zero] at hlt; omega
    have hx0 : x = 0 := by rw [← hx, hn]; rfl
    have hy0 : y = 0 := by rw [← hy, hn]; rfl
    subst hx0 hy0
    subst hL0
    clear hcell hlt h0
    go_enter Tryz.func74, Tryz.ntmps74
    go_wp2
    go_ret
    exact ⟨rfl, rfl⟩
  · obtain ⟨b, off, rfl, _, _, hc⟩ := hcell (by omega)
    have c0 : w.cell? ⟨b, off, none⟩ = some (.int .u32 (x : Int)) := by have := hc 0 (by omega); rw [hx] at this; exact this
    have i0 : (0 : Int) < (L : Int) := by omega
    by_cases hL1 : L = 1
    · have hy0 : y = 0 := by
        rw [← hy]; unfold wrd
        rw [hL1] at hlt
        rw [Nat.div_eq_of_lt hlt]
      subst hL1 hy0
      clear hcell hlt h0 hc
      have e0 : ((x + 0 * 4294967296 : Nat) : Int) = (x : Int) := by omega
      go_enter Tryz.func74, Tryz.ntmps74
      go_wp2
      go_ret
      exact ⟨by simp, rfl⟩
    · have c1 := hc 1 (by omega)
      rw [hy] at c1
      have i1 : (1 : Int) < (L : Int) := by omega
      have hor : bits .or .u64 (x : Int) ((y : Int) * 4294967296) = ((x + y * 4294967296 : Nat) : Int) := by
        have e : (y : Int) * 4294967296 = ((2 ^ 32 * y : Nat) : Int) := by omega
        rw [e, or64 (by omega) (by omega), orNat (by omega)]
        omega
      clear hcell hlt h0 hc
      go_enter Tryz.func74, Tryz.ntmps74
      go_wp2
      go_ret
      exact ⟨by simp, rfl⟩

/-- How many bits. -/
theorem kbsize {lo : Nat} {w : World} {v : Value} {n : Nat} (h : Bg lo w v n) : Kp 73 #[v] w (.int .i64 (size n)) := by
  obtain ⟨ao, cap, L, rfl, hL, hLb, hlt, h0, hp, hcell⟩ := h.open
  have hsz := size_dig (n := n)
  rw [← hL] at hsz
  clear hL
  by_cases hn : n = 0
  · obtain rfl := h0 hn
    subst hn
    rw [size_zero]
    clear hcell hlt h0 hp hsz
    go_enter Tryz.func73, Tryz.ntmps73
    go_wp2
    go_ret
    exact ⟨rfl, rfl⟩
  · obtain ⟨h1, h2⟩ := hp hn
    obtain ⟨l, rfl⟩ : ∃ l, L = l + 1 := ⟨L - 1, by omega⟩
    obtain ⟨b, off, rfl, _, _, hc⟩ := hcell h1
    have hs := hsz hn
    rw [Nat.add_sub_cancel] at hs h2
    have hy : wrd n l = n / 4294967296 ^ l := by
      unfold wrd
      refine Nat.mod_eq_of_lt ?_
      rw [b_succ, Nat.mul_comm] at hlt
      exact (Nat.div_lt_iff_lt_mul (b_pos l)).2 hlt
    have c0 := hc l (by omega)
    rw [hy] at c0
    obtain ⟨y, hyy⟩ : ∃ y, n / 4294967296 ^ l = y := ⟨_, rfl⟩
    rw [hyy] at c0 hs hy
    have hyl : y < 4294967296 := by rw [← hy]; exact wrd_lt _ _
    have hys : y < 2 ^ size y := size_le.1 (Nat.le_refl _)
    have hys2 : ∀ j, j < size y → 0 < y / 2 ^ j := by
      intro j hj
      refine Nat.pos_of_ne_zero fun h => ?_
      have := (Nat.div_eq_zero_iff_lt (Nat.two_pow_pos j)).1 h
      have := size_le.2 this
      omega
    rw [hs]
    obtain ⟨Z, hZ⟩ : ∃ Z, size y = Z := ⟨_, rfl⟩
    rw [hZ] at hys hys2
    rw [hZ]
    have HS := Lib.hid hys
    have HP := Lib.hid hys2
    have hZ32 : Z ≤ 32 := by rw [← hZ]; exact size_le.2 hyl
    have i1 : (0 : Int) ≤ (l : Int) ∧ (l : Int) < (l : Int) + 1 := by omega
    clear hcell hlt h0 hp hsz hc hs hy hyy hys hys2 hZ h1 h2 hn
    go_enter Tryz.func73, Tryz.ntmps73
    go_wp2
    go_loopw [3, 4] (fun k x wr => ∃ j, j ≤ Z ∧ k = .int .i64 (32 * (l : Int) + j) ∧ x = .int .u32 ((y / 2 ^ j : Nat) : Int) ∧ wr = w) (fun k _ _ => 32 * l + Z - (intOf k).toNat)
    case atStart => exact ⟨0, by omega, by simp, by simp, rfl⟩
    case round =>
      obtain ⟨j, hj, rfl, rfl, rfl⟩ := hrel
      by_cases hlt : j < Z
      · have h1 := HP.out j hlt
        have e2 : ((y / 2 ^ j : Nat) : Int) / 2 = ((y / 2 ^ (j + 1) : Nat) : Int) := by
          rw [Nat.pow_succ, ← Nat.div_div_eq_div_mul]; omega
        obtain ⟨x, hx⟩ : ∃ x, y / 2 ^ j = x := ⟨_, rfl⟩
        rw [hx] at h1 e2 ⊢
        have h2 : (0 : Int) < (x : Int) := by omega
        have E2 := Lib.hid e2
        clear e2
        go_wp2
        go_roundw
        case rel => exact ⟨j + 1, by omega, by simp; omega, by rw [E2.out], trivial⟩
        case measure => simp [intOf]; omega
      · obtain rfl : j = Z := by omega
        have e0 : y / 2 ^ j = 0 := Nat.div_eq_of_lt HS.out
        rw [e0]
        go_wp2
        go_ret
        exact ⟨by simp, rfl⟩
end Go.Proofs.YtoodbdjmbicaeaaGreatDoor
end
section
namespace Go.Proofs.YtoodbdjmbicaeaaGreatDoor
open Go.RowKit
set_option maxRecDepth 8000
set_option linter.unusedVariables false

theorem wrd_bit (n d r : Nat) (hr : r < 32) : (wrd n d / 2 ^ r % 2 == 1) = n.testBit (32 * d + r) := by
  have h1 : (wrd n d).testBit r = n.testBit (32 * d + r) := by
    unfold wrd
    rw [show (4294967296 : Nat) ^ d = 2 ^ (32 * d) from b_pow d, show (4294967296 : Nat) = 2 ^ 32 from rfl, Nat.testBit_mod_two_pow, Nat.testBit_div_two_pow, decide_eq_true hr, Bool.true_and, Nat.add_comm]
  rw [← h1, Nat.testBit_eq_decide_div_mod_eq]
  rfl

/-- A bit. -/
theorem kbit {lo : Nat} {w : World} {v : Value} {n : Nat} (h : Bg lo w v n) (i : Nat) (hi : i < 1000000000) : Kp 98 #[v, .int .i64 (i : Int)] w (.bool (n.testBit i)) := by
  obtain ⟨ao, cap, L, rfl, hL, hLb, hlt, h0, hp, hcell⟩ := h.open
  clear hL h0 hp
  obtain ⟨d, hd⟩ : ∃ d, i / 32 = d := ⟨_, rfl⟩
  obtain ⟨r, hr⟩ : ∃ r, i % 32 = r := ⟨_, rfl⟩
  have e1 : (i : Int) / 32 = (d : Int) := by omega
  have e2 : (i : Int) % 32 = (r : Int) := by omega
  have hi2 : i = 32 * d + r := by omega
  have hr32 : r < 32 := by omega
  have hi0 : (0 : Int) ≤ (i : Int) := by omega
  by_cases hdl : d < L
  · obtain ⟨b, off, rfl, _, _, hc⟩ := hcell (by omega)
    have c0 := hc d hdl
    have hb := wrd_bit n d r hr32
    rw [← hi2] at hb
    rw [← hb]
    obtain ⟨y, hy⟩ : ∃ y, wrd n d = y := ⟨_, rfl⟩
    have hyl : y < 4294967296 := by rw [← hy]; exact wrd_lt _ _
    rw [hy] at c0 ⊢
    obtain ⟨z, hz⟩ : ∃ z, y / 2 ^ r = z := ⟨_, rfl⟩
    have hzl : z < 4294967296 := by rw [← hz]; exact Nat.lt_of_le_of_lt (Nat.div_le_self _ _) hyl
    have hsh : Op.shift .shr .u32 (y : Int) .u64 (r : Int) = pure (.int .u32 (z : Int)) := by
      rw [shift_shr .u32 .u64 _ _ (by omega) (by simp [IntKind.bits]; omega), Int.toNat_natCast, ← hz]
      rw [Int.natCast_ediv, Int.natCast_pow]; rfl
    have hyz : (y : Int) / 2 ^ r = (z : Int) := by rw [← hz, Int.natCast_ediv, Int.natCast_pow]; rfl
    have hand : bits .and .u32 ((y : Int) / 2 ^ r) 1 = ((z % 2 : Nat) : Int) := by
      rw [hyz]
      show IntKind.u32.wrap ((BitVec.ofInt 32 (z : Int) &&& BitVec.ofInt 32 1).toNat : Int) = _
      rw [BitVec.toNat_and, BitVec.ofInt_natCast, BitVec.toNat_ofNat, show (BitVec.ofInt 32 (1 : Int)).toNat = 1 by decide, Nat.and_one_is_mod, IntKind.wrap_u32']
      omega
    have hcv : IntKind.u64.wrap (r : Int) = (r : Int) := by rw [IntKind.wrap_u64]; omega
    have hdl2 : (d : Int) < (L : Int) := by omega
    rw [hz]
    have h01 : z % 2 = 0 ∨ z % 2 = 1 := by omega
    clear hcell hlt hc hb hi2 hy hz hd hr hyz
    rcases h01 with h01 | h01
    all_goals
      rw [h01] at hand ⊢
      go_enter Tryz.func98, Tryz.ntmps98
      go_wp2
      go_ret
      exact ⟨rfl, rfl⟩
  · have hf : n.testBit i = false := by
      refine Nat.testBit_lt_two_pow (Nat.lt_of_lt_of_le hlt ?_)
      rw [b_pow]
      exact Nat.pow_le_pow_right (by decide) (by omega)
    rw [hf]
    have hdl2 : ¬ (d : Int) < (L : Int) := by omega
    clear hcell hlt hf hi2 hd hr
    go_enter Tryz.func98, Tryz.ntmps98
    go_wp2
    go_ret
    exact ⟨rfl, rfl⟩

/-- A power, behind a name that simp does not open. -/
def bp (j : Nat) : Nat := 4294967296 ^ j
theorem bp_zero : bp 0 = 1 := rfl
/-- How two numbers stand. -/
def cmpN (a b : Nat) : Int := if a < b then -1 else if b < a then 1 else 0
theorem div_step (a i : Nat) : a / bp i = a / bp (i + 1) * 4294967296 + wrd a i := by
  unfold wrd bp
  rw [b_succ, ← Nat.div_div_eq_div_mul]
  omega
theorem lt_of_div {a b P : Nat} (h : a / P < b / P) : a < b := Nat.lt_of_not_le fun hle => by have := Nat.div_le_div_right (c := P) hle; omega

theorem kless {lo lo' : Nat} {w : World} {v v' : Value} {a b : Nat} (h : Bg lo w v a) (h' : Bg lo' w v' b) : Kn 71 #[v, v'] w (.int .i64 (cmpN a b)) := by
  obtain ⟨ao, cap, L, rfl, hL, hLb, hlt, h0, hp, hcell⟩ := h.open
  obtain ⟨ao', cap', L', rfl, hL', hLb', hlt', h0', hp', hcell'⟩ := h'.open
  clear hL hL'
  by_cases hll : L = L'
  · subst hll
    have hb : ((L : Int) != (L : Int)) = false := by simp
    have HA := Lib.hid hlt
    have HB := Lib.hid hlt'
    have HC := Lib.hid hcell
    have HD := Lib.hid hcell'
    clear hlt hlt' h0 h0' hp hp' hcell hcell'
    go_enter Tryz.func71, Tryz.ntmps71
    go_wp2
    go_loopw [5] (fun i wr => ∃ (j n : Nat) (z : Int), j ≤ L ∧ i = .int .i64 z ∧ z = (j : Int) - 1 ∧ a / bp j = b / bp j ∧ wr = w.drewN n) (fun i _ => ((intOf i) + 1).toNat)
    case atStart =>
      exact ⟨L, 0, (L : Int) - 1, Nat.le_refl _, by simp, rfl, by unfold bp; rw [Nat.div_eq_of_lt HA.out, Nat.div_eq_of_lt HB.out], rfl⟩
    case round =>
      obtain ⟨j, n, z, hj, rfl, hz, hq, rfl⟩ := hrel
      by_cases hj0 : j = 0
      · subst hj0
        obtain rfl : z = -1 := by omega
        clear hz
        have hab : a = b := by rw [bp_zero, Nat.div_one, Nat.div_one] at hq; exact hq
        clear hq
        go_wp2
        go_ret
        refine ⟨?_, n, rfl⟩
        have : cmpN a b = 0 := by unfold cmpN; rw [if_neg (by omega), if_neg (by omega)]
        rw [this]; rfl
      · obtain ⟨k, rfl⟩ : ∃ k, j = k + 1 := ⟨j - 1, by omega⟩
        obtain rfl : z = (k : Int) := by omega
        clear hz
        obtain ⟨bb, off, rfl, _, _, hc⟩ := HC.out (by omega)
        obtain ⟨bb', off', rfl, _, _, hc'⟩ := HD.out (by omega)
        have c1 := hc k (by omega)
        have c2 := hc' k (by omega)
        have d1 := div_step a k
        have d2 := div_step b k
        have HQ := Lib.hid hq
        obtain ⟨x, hx⟩ : ∃ x, wrd a k = x := ⟨_, rfl⟩
        obtain ⟨y, hy⟩ : ∃ y, wrd b k = y := ⟨_, rfl⟩
        rw [hx] at c1 d1
        rw [hy] at c2 d2
        have D1 := Lib.hid d1
        have D2 := Lib.hid d2
        have i1 : (0 : Int) ≤ (k : Int) ∧ (k : Int) < (L : Int) := by omega
        clear hc hc' hx hy hq d1 d2
        rcases Nat.lt_trichotomy x y with hxy | hxy | hxy
        · have hx1 : (x : Int) < (y : Int) := by omega
          have hlt2 : a < b := lt_of_div (P := bp k) (by have := D1.out; have := D2.out; have := HQ.out; omega)
          have HL := Lib.hid hlt2
          clear hlt2
          go_wp2
          go_quiet (fail)
          go_wp2
          go_ret
          refine ⟨?_, n + nq, by simp only [World.drewN_drewN]⟩
          have hv : cmpN a b = -1 := by
            unfold cmpN
            rw [if_pos HL.out]
          rw [hv]
          rfl
        · have hx1 : ¬ (x : Int) < (y : Int) := by omega
          have hx2 : ¬ (y : Int) < (x : Int) := by omega
          have hq2 : a / bp k = b / bp k := by have := D1.out; have := D2.out; have := HQ.out; omega
          have HQ2 := Lib.hid hq2
          clear hq2
          subst hxy
          go_wp2
          go_quiet (fail)
          revert nq; intro q1
          go_wp2
          go_quiet (fail)
          go_wp2
          go_roundw
          case rel => exact ⟨k, _, _, by omega, rfl, by omega, HQ2.out, rfl⟩
          case measure => simp [intOf]
        · have hx1 : ¬ (x : Int) < (y : Int) := by omega
          have hx2 : (y : Int) < (x : Int) := by omega
          have hlt2 : b < a := lt_of_div (P := bp k) (by have := D1.out; have := D2.out; have := HQ.out; omega)
          have HL := Lib.hid hlt2
          clear hlt2
          go_wp2
          go_quiet (fail)
          revert nq; intro q1
          go_wp2
          go_quiet (fail)
          go_wp2
          go_ret
          refine ⟨?_, n + q1 + nq, by simp only [World.drewN_drewN]⟩
          have hv : cmpN a b = 1 := by
            unfold cmpN
            rw [if_neg (by have := HL.out; omega), if_pos HL.out]
          rw [hv]
          rfl
  · have hb : ((L : Int) != (L' : Int)) = true := by simpa using fun e : (L : Int) = (L' : Int) => hll (by omega)
    rcases Nat.lt_or_gt_of_ne hll with h1 | h1
    · have hv : cmpN a b = -1 := by
        have hb0 : b ≠ 0 := fun e => by have := h0' e; omega
        have h2 := (hp' hb0).2
        have h3 : 4294967296 ^ L ≤ 4294967296 ^ (L' - 1) := Nat.pow_le_pow_right (by decide) (by omega)
        unfold cmpN
        rw [if_pos (by omega)]
      rw [hv]
      have i1 : (L : Int) < (L' : Int) := by omega
      clear hlt hlt' h0 h0' hp hp' hcell hcell' hv hll h1
      go_enter Tryz.func71, Tryz.ntmps71
      go_wp2
      go_ret
      exact ⟨rfl, 0, rfl⟩
    · have hv : cmpN a b = 1 := by
        have hb0 : a ≠ 0 := fun e => by have := h0 e; omega
        have h2 := (hp hb0).2
        have h3 : 4294967296 ^ L' ≤ 4294967296 ^ (L - 1) := Nat.pow_le_pow_right (by decide) (by omega)
        unfold cmpN
        rw [if_neg (by omega), if_pos (by omega)]
      rw [hv]
      have i1 : ¬ (L : Int) < (L' : Int) := by omega
      clear hlt hlt' h0 h0' hp hp' hcell hcell' hv hll h1
      go_enter Tryz.func71, Tryz.ntmps71
      go_wp2
      go_ret
      exact ⟨rfl, 0, rfl⟩
end Go.Proofs.YtoodbdjmbicaeaaGreatDoor
end
