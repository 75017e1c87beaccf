/- Whole numbers of the document's answer: trim, From. No condition. -/
import Derived.Test.YtoodbdjmbicaeaaNum2
import Derived.Test.YtoodbdjmbicaeaaBig
import Derived.Test.YtoodbdjmbicaeaaApp
namespace Go.Proofs.Ytoodbdjmbicaeaa
open Go.RowKit
set_option maxRecDepth 8000
set_option linter.unusedVariables false

/-- A word of 32 bits in its cell. -/
def f32 (x : Nat) : Value := .int .u32 (x : Int)
/-- v is the number n, as the program has it. -/
abbrev Bg (lo : Nat) (w : World) (v : Value) (n : Nat) : Prop := Sl lo w.heap.size f32 w v (dig n)

theorem info78 : (Try.prog.info? 78).map (fun i => (i.zero, i.size, i.bytes)) = some (some (.int .u32 0), 1, 4) := by kernel_rfl
theorem info_parts {P : Program} {t : TypeId} {z : Option Value} {s b : Nat} (h : (P.info? t).map (fun i => (i.zero, i.size, i.bytes)) = some (z, s, b)) : ∃ i, P.info? t = some i ∧ i.zero = z ∧ i.size = s ∧ i.bytes = b := by
  cases hi : P.info? t with
  | none => rw [hi] at h; cases h
  | some i =>
    rw [hi] at h
    simp only [Option.map_some, Option.some.injEq, Prod.mk.injEq] at h
    exact ⟨i, rfl, h⟩
theorem f32_one (l : List Nat) : ∀ u ∈ l.map f32, u.oneCell' = true := by
  intro u hu
  obtain ⟨_, _, rfl⟩ := List.mem_map.1 hu
  rfl
theorem app_w {w : World} {ops : Array Oper} {rest : List Oper} {o : Oper} {a : Act} {Q : Exit → Act → World → Prop} (hgd : o.guard = none) (s x : Operand)
    (ho : o.op = .call { callee := .builtin .append, args := #[s, x], argTypes := #[52, 52] }) (base : Nat) (v : Value) (l m : List Nat) (hs : a.eval s = v)
    (hown : w.ownsRow base 78 1 v l.length (l.map f32)) (ad : Addr) (c : Nat) (hx : a.eval x = .slice (some ad) m.length c) (hnews : ∀ j u, (m.map f32)[j]? = some u → w.cell? (ad.add j) = some u)
    (hlen : l.length + m.length ≤ 1000000) (hbase : base ≤ w.heap.size)
    (h : ∀ v' w', w'.ownsRow base 78 1 v' (l ++ m).length ((l ++ m).map f32) → w.grownBy w' v.ownBlock → wpList Try.prog ops Q rest (a.put o.dst v') w') : wpList Try.prog ops Q (o :: rest) a w := by
  obtain ⟨i0, hi0, hz0, hz1, hz2⟩ := info_parts info78
  refine wpList_append_own w hgd s x 52 ho base 78 i0 (.int .u32 0) 1 4 Try.underlying52 hi0 hz0 hz1 hz2 rfl (by decide) v l.length _ hs hown ad m.length c (m.map f32) hx (by simp) hnews (f32_one m) (by unfold maxLen; omega) (by omega) hbase (fun v' w' h1 h2 _ => h v' w' ?_ h2)
  rw [List.length_append, List.map_append]
  exact h1

theorem trimmed {l : List Nat} (h : OkL l) (hl : ∀ h : l ≠ [], l.getLast h ≠ 0) : l = dig (num l) := (dig_of h hl).symm

theorem ktrim (lo hi : Nat) (w : World) (v : Value) (l : List Nat) (hv : Sl lo hi f32 w v l) (hl : OkL l) :
    Calls Try.prog 103 #[v] w fun e w' => ∃ v', e = .returned v' ∧ Sl lo hi f32 w v' (dig (num l)) ∧ w' = w := by
  obtain ⟨N, hN⟩ : ∃ N, num l = N := ⟨_, rfl⟩
  have HV := Lib.hid (show ∃ m, Sl lo hi f32 w v m ∧ OkL m ∧ num m = N ∧ m.length ≤ l.length from ⟨l, hv, hl, hN, Nat.le_refl _⟩)
  rw [hN]
  clear hv hl hN
  go_enter Try.func103, Try.ntmps103
  go_wp2_with fail
  go_loopw [0] (fun u wr => ∃ m, Sl lo hi f32 wr u m ∧ OkL m ∧ num m = N ∧ wr = w) (fun u _ => match u with | .slice _ n _ => n | _ => 0)
  case atStart => obtain ⟨m, h1, h2, h3, _⟩ := HV.out; exact ⟨m, h1, h2, h3, rfl⟩
  case round =>
    obtain ⟨m, hs, hok, hnum, rfl⟩ := hrel
    by_cases h0 : m = []
    · subst h0
      obtain ⟨ao, cap, rfl, hsc⟩ := hs
      have HS := Lib.hid hsc
      clear hsc
      go_wp2
      go_ret
      refine ⟨_, rfl, ?_, rfl⟩
      have e : dig N = [] := by rw [← hnum]; exact dig_zero
      rw [e]
      exact ⟨ao, cap, rfl, HS.out⟩
    · obtain ⟨ao, cap, rfl, hsc⟩ := hs
      obtain ⟨b, off, rfl, hb1, hb2, hcell⟩ := hsc.cells h0
      have hle := hsc.le
      have hlen := hsc.len
      obtain ⟨m', x, rfl⟩ : ∃ m' x, m = m' ++ [x] := ⟨m.dropLast, m.getLast h0, (List.dropLast_concat_getLast h0).symm⟩
      obtain ⟨k, hk⟩ : ∃ k, m'.length = k := ⟨_, rfl⟩
      have hk1 : (m' ++ [x]).length = k + 1 := by rw [List.length_append, hk]; rfl
      rw [hk1] at hle hlen
      have hc := hcell k (by omega)
      have e0 : (m' ++ [x])[k]'(by omega) = x := by simp [hk]
      rw [e0] at hc
      have hc2 : wr.cell? ⟨b, off + k, none⟩ = some (.int .u32 (x : Int)) := hc
      have HC := Lib.hid hcell
      have hsl' : Sl lo hi f32 wr (.slice (some ⟨b, off, none⟩) k cap) m' := by
        refine ⟨some ⟨b, off, none⟩, cap, by rw [hk], by omega, (fun h => by cases h), fun hne => ⟨b, off, rfl, hb1, hb2, fun j hj => ?_⟩, by omega⟩
        rw [hcell j (by omega)]
        simp [hj]
      have HS := Lib.hid hsl'
      have HK := Lib.hid hok
      have HN := Lib.hid hnum
      have HM := Lib.hid hsc
      have hs2 : ((k : Int) + 1) - 1 = (k : Int) := by omega
      have HK1 := Lib.hid hk1
      rw [hk1]
      clear hcell hsc hc hok hnum hsl' h0 e0 hk hk1
      by_cases hx : x = 0
      · subst hx
        have i1 : (0 : Int) ≤ (k : Int) ∧ (k : Int) < (k : Int) + 1 := by omega
        go_wp2
        go_roundw
        case rel =>
          refine ⟨m', HS.out, fun y hy => HK.out y (List.mem_append_left _ hy), ?_, trivial⟩
          have := HN.out
          rw [num_one, Nat.zero_mul, Nat.add_zero] at this
          exact this
        case measure => simp
      · have i1 : (0 : Int) ≤ (k : Int) ∧ (k : Int) < (k : Int) + 1 := by omega
        have hx2 : ((x : Int) == 0) = false := by simpa using hx
        go_wp2
        go_ret
        refine ⟨.slice (some ⟨b, off, none⟩) (k + 1) cap, rfl, ?_, rfl⟩
        have e : dig N = m' ++ [x] := by
          rw [← HN.out]
          exact dig_of HK.out (fun h => by simpa using hx)
        rw [e]
        exact ⟨some ⟨b, off, none⟩, cap, by rw [HK1.out], HM.out⟩

/-- A number of 64 bits. -/
theorem kfrom {n : Nat} (hn : n < 2 ^ 64) (w : World) :
    Calls Try.prog 72 #[wd n] w fun e w' => ∃ v', e = .returned v' ∧ Bg w.heap.size w' v' n ∧ Below w.heap.size w w' := by
  obtain ⟨lo, hlo⟩ : ∃ lo, n % 4294967296 = lo := ⟨_, rfl⟩
  obtain ⟨hi, hhi⟩ : ∃ hi, n / 4294967296 = hi := ⟨_, rfl⟩
  have b1 : bits .and .u64 (n : Int) 4294967295 = (lo : Int) := by
    show IntKind.u64.wrap ((BitVec.ofInt 64 (n : Int) &&& BitVec.ofInt 64 4294967295).toNat : Int) = _
    rw [BitVec.toNat_and, toNat_of n hn, show (BitVec.ofInt 64 (4294967295 : Int)).toNat = 2 ^ 32 - 1 by decide, Nat.and_two_pow_sub_one_eq_mod, ← hlo]
    exact wrap_u64 (by omega)
  have b2 : IntKind.u32.wrap (lo : Int) = (lo : Int) := by rw [IntKind.wrap_u32']; omega
  have b3 : (n : Int) / 4294967296 = (hi : Int) := by omega
  have b4 : IntKind.u32.wrap (hi : Int) = (hi : Int) := by rw [IntKind.wrap_u32']; omega
  have hok : OkL [lo, hi] := by intro x hx; simp at hx; omega
  have hnum : num [lo, hi] = n := by simp [num]; omega
  have HK := Lib.hid hok
  have HN := Lib.hid hnum
  clear hlo hhi hok hnum hn
  go_enter Try.func72, Try.ntmps72
  go_wp2_with (first
    | (go_at_call 103; refine (ktrim w.heap.size w1.heap.size w1 _ [lo, hi] (Sl.owns O1.out (by simp)) HK.out).mono ?_; rintro e w2 ⟨v2, rfl, h2, rfl⟩; rw [HN.out] at h2)
    | (at_builtin; refine app_w rfl (.tmp 4) (.tmp 11) rfl w.heap.size (.slice none 0 0) [] [lo, hi] rfl (World.ownsRow_nil _ _ _ _) ⟨w.heap.size, 0, none⟩ 2 rfl (news_alloc w [f32 lo, f32 hi] 78) (by simp) (by simp) ?_; intro v1 w1 hown1 hgrow1; have O1 := Lib.hid hown1; have G1 := Lib.hid hgrow1; clear hown1 hgrow1))
  go_ret
  exact ⟨_, rfl, h2, ((Below.refl _ _).alloc (Nat.le_refl _) _).grown G1.out (by simp) (fun k hk => by cases hk)⟩
end Go.Proofs.Ytoodbdjmbicaeaa
