/- SameSamples. -/
import Derived.Test.YtepjpdhmjchakaaDoorGz8
import Derived.Deep.QuietTactic
import Derived.BigQuiet
import Derived.Laws.StructEq
namespace Go.Proofs.YtepjpdhmjchakaaDoor
open Go.RowKit
set_option linter.unusedVariables false

theorem smGuardType : Tryd.prog.eqGuardType Tryd.prog.depth 70 = false := by kernel_rfl
set_option maxRecDepth 100000 in
theorem smEqual (w : World) (a c : Int) (b d : Int) : (Op.equalIn 10000 70 (.agg #[.int .i64 a, .int .u64 b]) (.agg #[.int .i64 c, .int .u64 d])).run Tryd.prog w = .ok (a == c && b == d) w := by
  have hS : Tryd.prog.underlying 70 = some (.struct (Tryd.prog.fieldsOf 70)) := by kernel_rfl
  have hp : Tryd.prog.stoodInHeld 70 = false := by kernel_rfl
  rw [show (10000 : Nat) = 9999 + 1 from rfl, run_equalIn_agg w 9999 _ _ _ hS hp]
  simp only [Program.fieldsOf, Tryd.underlying70]
  go_simp
  by_cases h1 : a = c <;> by_cases h2 : b = d <;> simp [h1, h2]
theorem smGuard (w : World) (x y : Operand) (xs ys : Array Value) : (eqGuard .neq 70 x y (.agg xs) (.agg ys)).run Tryd.prog w = .ok () w := run_eqGuard_agg w .neq _ x y xs ys smGuardType
theorem smNeq (w : World) (a c : Int) (b d : Int) : (binOp .neq 70 (.agg #[.int .i64 a, .int .u64 b]) (.agg #[.int .i64 c, .int .u64 d])).run Tryd.prog w = .ok (.bool (!(a == c && b == d))) w := by
  rw [run_neq_struct, smEqual]; rfl
attribute [local go_sem] smGuard smNeq
theorem smp_ext {a b : Gz.Smp} (h1 : a.t = b.t) (h2 : a.v = b.v) : a = b := by cases a; cases b; simp_all

set_option maxHeartbeats 1000000 in
theorem sameSm_any (hi hi' : Nat) (w : World) (ao ao' : Option Addr) (cap cap' : Nat) (l l' : List Gz.Smp) (hv : Sms hi w ao cap l) (hv' : Sms hi' w ao' cap' l') :
    Calls Tryd.prog 18 #[.slice ao l.length cap, .slice ao' l'.length cap'] w fun e w' => ∃ b, e = .returned (.bool b) ∧ (b = true ↔ l = l') ∧ ∃ n, w' = w.drewN n := by
  obtain ⟨hl, hc⟩ := hv
  obtain ⟨hl', hc'⟩ := hv'
  have hl2 : l.length ≤ 9223372036854775807 := Nat.le_trans hl (by decide)
  by_cases hlen : l.length = l'.length
  · have hb : ((l.length : Int) != (l'.length : Int)) = false := by rw [hlen]; simp
    have HL := Lib.hid hlen
    clear hlen
    go_enter Tryd.func18, Tryd.ntmps18
    go_wp2
    go_loopw [5] (fun i wr => ∃ k n : Nat, k ≤ l.length ∧ i = .int .i64 k ∧ l.take k = l'.take k ∧ wr = w.drewN n) (fun i _ => l.length - (intOf i).toNat)
    case atStart => exact ⟨0, 0, by omega, rfl, rfl, rfl⟩
    case round =>
      obtain ⟨k, n, hk, rfl, ht, rfl⟩ := hrel
      have HT := Lib.hid ht
      clear ht
      by_cases hlt : k < l.length
      · obtain ⟨b, off, rfl, _, hcell⟩ := hc (by intro e; subst e; simp at hlt)
        have hlt' : k < l'.length := by have := HL.out; omega
        obtain ⟨b', off', rfl, _, hcell'⟩ := hc' (by intro e; subst e; simp at hlt')
        have hc1 := (hcell k hlt).c0
        have hd1 := (hcell k hlt).c1
        have hc2 := (hcell' k hlt').c0
        have hd2 := (hcell' k hlt').c1
        have i1 : (0 : Int) ≤ (k : Int) ∧ (k : Int) < (l.length : Int) := by omega
        have i2 : (0 : Int) ≤ (k : Int) ∧ (k : Int) < (l'.length : Int) := by omega
        clear hcell hcell' hc hc'
        go_wp2
        by_cases he : l[k].t = l'[k].t ∧ l[k].v = l'[k].v
        · have he1 : (l[k].v : Int) = (l'[k].v : Int) := by rw [he.2]
          have HE := Lib.hid he
          have HE1 := Lib.hid he1
          clear he he1
          refine wp_region_quiet_lit (by kernel_rfl) (by kernel_rfl) ?_
          iterate 8 (go_big_quiet_step (fail))
          refine wpQuiet_step fun K hK => ?_
          rw [if_pos (by kernel_rfl)]
          refine ⟨.bool false, ?_, hK _ ?_⟩
          · intro w' hw'
            unfold Oper.quietAt
            go_simp
            simp [HE.out.1, HE1.out]
          refine wpQuiet_nil ?_
          intro _ hw'
          obtain ⟨nq, hw''⟩ := hw'
          subst hw''
          go_wp2
          go_roundw
          case rel =>
            exact ⟨k + 1, _, by omega, by go_num, by rw [List.take_succ_eq_append_getElem hlt, List.take_succ_eq_append_getElem hlt', HT.out, smp_ext HE.out.1 HE.out.2], rfl⟩
          case measure => simp [intOf]; omega
        · have HE := Lib.hid he
          clear he
          refine wp_region_quiet_lit (by kernel_rfl) (by kernel_rfl) ?_
          iterate 8 (go_big_quiet_step (fail))
          refine wpQuiet_step fun K hK => ?_
          rw [if_pos (by kernel_rfl)]
          refine ⟨.bool true, ?_, hK _ ?_⟩
          · intro w' hw'
            unfold Oper.quietAt
            go_simp
            by_cases h1 : l[k].t = l'[k].t
            · have h2 : ¬ (l[k].v : Int) = (l'[k].v : Int) := fun e => HE.out ⟨h1, by omega⟩
              rw [if_pos h1, if_neg h2]
              exact ⟨rfl, rfl⟩
            · rw [if_neg h1]
              exact ⟨rfl, rfl⟩
          refine wpQuiet_nil ?_
          intro _ hw'
          obtain ⟨nq, hw''⟩ := hw'
          subst hw''
          go_wp2
          go_ret
          refine ⟨false, rfl, ⟨fun h => (by cases h), fun e => ?_⟩, n + nq, rfl⟩
          subst e
          exact absurd ⟨rfl, rfl⟩ HE.out
      · have e : k = l.length := by omega
        subst e
        have e2 : l = l' := by
          have h1 := HT.out
          have h2 := HL.out
          rw [List.take_length, h2, List.take_length] at h1
          exact h1
        subst e2
        clear HT HL hb hc hc'
        go_wp2
        go_ret
        exact ⟨rfl, _, rfl⟩
  · have hb : ((l.length : Int) != (l'.length : Int)) = true := by simp; omega
    go_enter Tryd.func18, Tryd.ntmps18
    go_wp2
    go_ret
    exact ⟨false, rfl, by simp; intro e; exact hlen (by rw [e]), 0, rfl⟩
end Go.Proofs.YtepjpdhmjchakaaDoor
