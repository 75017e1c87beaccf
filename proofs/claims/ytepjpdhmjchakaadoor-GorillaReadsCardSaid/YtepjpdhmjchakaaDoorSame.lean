/- SameBytes. -/
import Derived.Test.YtepjpdhmjchakaaDoorMem
import Derived.Test.YtepjpdhmjchakaaDoorChecked
import Derived.Deep.QuietTactic
import Derived.BigQuiet
namespace Go.Proofs.YtepjpdhmjchakaaDoor
open Go.RowKit

def sameB (a b : List UInt8) : Bool := decide (a = b)

theorem same_any (lo hi lo' hi' : Nat) (w : World) (v v' : Value) (l l' : List UInt8) (hv : Sl lo hi f8 w v l) (hv' : Sl lo' hi' f8 w v' l') :
    Calls Tryd.prog 32 #[v, v'] w fun e w' => e = .returned (.bool (sameB l l')) ∧ ∃ n, w' = w.drewN n := by
  obtain ⟨ao, cap, rfl, hl, _, hc⟩ := hv
  obtain ⟨ao', cap', rfl, hl', _, hc'⟩ := hv'
  by_cases hlen : l.length = l'.length
  · have hb : ((l.length : Int) != (l'.length : Int)) = false := by rw [hlen]; simp
    have HL := Lib.hid hlen
    clear hlen
    go_enter Tryd.func32, Tryd.ntmps32
    go_wp2
    go_loopw [5] (fun i wr => ∃ k n : Nat, k ≤ l.length ∧ i = .int .i64 k ∧ l.take k = l'.take k ∧ wr = w.drewN n) (fun i _ => l.length - (intOf i).toNat)
    case atStart => exact ⟨0, 0, by omega, rfl, rfl, rfl⟩
    case round =>
      obtain ⟨k, n, hk, rfl, ht, rfl⟩ := hrel
      have HT := Lib.hid ht
      clear ht
      by_cases hlt : k < l.length
      · obtain ⟨b, off, rfl, _, _, hcell⟩ := hc (by intro e; subst e; simp at hlt)
        have hlt' : k < l'.length := by have := HL.out; omega
        obtain ⟨b', off', rfl, _, _, hcell'⟩ := hc' (by intro e; subst e; simp at hlt')
        have hc1 : w.cell? ⟨b, off + k, none⟩ = some (.int .u8 (W8 l[k])) := hcell k hlt
        have hc2 : w.cell? ⟨b', off' + k, none⟩ = some (.int .u8 (W8 l'[k])) := hcell' k hlt'
        have i1 : (0 : Int) ≤ (k : Int) ∧ (k : Int) < (l.length : Int) := by omega
        have i2 : (0 : Int) ≤ (k : Int) ∧ (k : Int) < (l'.length : Int) := by omega
        clear hcell hcell' hc hc'
        go_wp2
        go_quiet (fail)
        go_wp2
        · have hne : l[k] ≠ l'[k] := by
            intro e
            have h : (W8 l[k] != W8 l'[k]) = true := by assumption
            rw [e] at h; simp at h
          go_ret
          refine ⟨?_, n + nq, by rw [World.drewN_drewN]⟩
          have hs : sameB l l' = false := by
            unfold sameB; rw [decide_eq_false_iff_not]; intro e; subst e; exact hne rfl
          rw [hs]; rfl
        · have he : l[k] = l'[k] := by
            have h : (W8 l[k] != W8 l'[k]) = false := by assumption
            exact W8_inj (by simpa using h)
          go_roundw
          case rel =>
            exact ⟨k + 1, _, by omega, by go_num, by rw [List.take_succ_eq_append_getElem hlt, List.take_succ_eq_append_getElem hlt', HT.out, he], rfl⟩
          case measure => simp [intOf]; omega
      · have e : k = l.length := by omega
        subst e
        have e2 : l = l' := by
          have h1 := HT.out
          have h2 := HL.out
          rw [List.take_length, h2, List.take_length] at h1
          exact h1
        subst e2
        clear HT HL hb hc hc'
        go_wp2
        go_ret
        exact ⟨by rw [show sameB l l = true from by simp [sameB]]; rfl, _, rfl⟩
  · have hb : ((l.length : Int) != (l'.length : Int)) = true := by simp; omega
    go_enter Tryd.func32, Tryd.ntmps32
    go_wp2
    go_ret
    refine ⟨?_, 0, rfl⟩
    have hs : sameB l l' = false := by
      unfold sameB; rw [decide_eq_false_iff_not]; intro e; subst e; exact hlen rfl
    rw [hs]; rfl
end Go.Proofs.YtepjpdhmjchakaaDoor
