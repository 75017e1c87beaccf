/- The reference's checksum and the two Sums: what they return. No condition beyond the slice being one. -/
import Derived.Test.YtckmeomhcikmoaaCrc
namespace Go.Proofs.Ytckmeomhcikmoaa
open Go.RowKit

theorem stp_odd (x : BitVec 32) (h : (W32 (x &&& 1#32) == 1) = true) : Crc.stp x = x >>> 1 ^^^ 2197175160#32 := by
  unfold Crc.stp
  have h0 : x.getLsbD 0 = true := by
    have h1 : W32 (x &&& 1#32) = W32 1#32 := (eq_of_beq h).trans (by decide)
    have h2 := congrArg (fun y => y.getLsbD 0) (W32_inj h1)
    rw [BitVec.getLsbD_and] at h2
    simpa using h2
  rw [h0]; rfl
theorem stp_even (x : BitVec 32) (h : (W32 (x &&& 1#32) == 1) = false) : Crc.stp x = x >>> 1 := by
  unfold Crc.stp
  have h0 : x.getLsbD 0 = false := by
    cases h0 : x.getLsbD 0
    · rfl
    · have h1 : x &&& 1#32 = 1#32 := by
        apply BitVec.eq_of_getLsbD_eq
        intro i hi
        rw [BitVec.getLsbD_and]
        cases i with
        | zero => rw [h0]; rfl
        | succ k => have h1 : (1#32).getLsbD (k + 1) = false := by simp
                    rw [h1]; simp
      rw [h1] at h
      exact absurd h (by decide)
  rw [h0]; simp

theorem rmore_any (lo hi : Nat) (w : World) (s : BitVec 32) (v : Value) (l : List UInt8) (hv : Sl lo hi f8 w v l) :
    Calls Try.prog 18 #[.int .u32 (W32 s), v] w fun e w' => e = .returned (.int .u32 (W32 (Crc.more s l))) ∧ w = w' := by
  obtain ⟨ao, cap, rfl, hl, _, hc⟩ := hv
  go_enter Try.func18, Try.ntmps18
  go_wp2
  go_loop [5, 6, 7] (fun n i _ => ∃ (k : Nat) (x : BitVec 32), k ≤ l.length ∧ i = .int .i64 k ∧ n = .int .u32 (W32 x) ∧ x = Crc.run (~~~s) (l.take k)) (fun _ i _ => l.length - (intOf i).toNat)
  case atStart => exact ⟨0, ~~~s, by omega, rfl, rfl, rfl⟩
  case round =>
    obtain ⟨k, x, hk, rfl, rfl, hx⟩ := hrel
    have HX := Lib.hid hx
    clear hx
    by_cases hlt : k < l.length
    · obtain ⟨b, off, rfl, hlo, hb, hcell⟩ := hc (by intro e; subst e; simp at hlt)
      have hc1 : w.cell? ⟨b, off + k, none⟩ = some (.int .u8 (W8 l[k])) := hcell k hlt
      clear hcell hc
      have h8 := W8_lt l[k]
      go_wp2
      go_loop [5, 7] (fun n i => ∃ (m : Nat) (y : BitVec 32), m ≤ 8 ∧ i = .int .i64 m ∧ n = .int .u32 (W32 y) ∧ Crc.stps (8 - m) y = Crc.byt x l[k]) (fun _ i => 8 - (intOf i).toNat)
      case atStart => exact ⟨0, _, by omega, rfl, rfl, rfl⟩
      case round =>
        obtain ⟨m, y, hm, rfl, rfl, hy⟩ := hrel
        have HY := Lib.hid hy
        clear hy
        by_cases hm8 : m < 8
        · go_wp2
          · go_round
            case rel =>
              refine ⟨m + 1, _, by omega, by go_num, rfl, ?_⟩
              rw [← stp_odd y (by assumption), ← HY.out, show 8 - m = (8 - (m + 1)) + 1 from by omega]; rfl
            case measure => simp [intOf]; omega
          · go_round
            case rel =>
              refine ⟨m + 1, _, by omega, by go_num, rfl, ?_⟩
              rw [← stp_even y (by assumption), ← HY.out, show 8 - m = (8 - (m + 1)) + 1 from by omega]; rfl
            case measure => simp [intOf]; omega
        · have e : m = 8 := by omega
          subst e
          have e2 : y = Crc.byt x l[k] := HY.out
          subst e2
          clear HY
          go_wp2
          go_round
          case rel =>
            refine ⟨k + 1, _, by omega, by go_num, rfl, ?_⟩
            rw [List.take_succ_eq_append_getElem hlt, Crc.run_snoc, ← HX.out]
          case measure => simp [intOf]; omega
    · have e : k = l.length := by omega
      subst e
      have e2 : x = Crc.run (~~~s) l := by rw [HX.out, List.take_length]
      subst e2
      clear HX hc
      go_wp2
      go_ret
      exact ⟨rfl, rfl⟩

theorem sum_any (lo hi : Nat) (w : World) (v : Value) (l : List UInt8) (hv : Sl lo hi f8 w v l) (hhi : hi ≤ w.heap.size) :
    Calls Try.prog 13 #[v] w fun e w' => e = .returned (.int .u32 (W32 (Crc.sum l))) ∧ Below w.heap.size w w' := by
  go_enter Try.func13, Try.ntmps13
  go_wp2_with (go_at_call 14; refine (more_any lo hi _ 0#32 v l hv hhi).mono ?_; rintro e w1 ⟨rfl, hb1⟩)
  go_ret
  exact ⟨rfl, hb1⟩

theorem rsum_any (lo hi : Nat) (w : World) (v : Value) (l : List UInt8) (hv : Sl lo hi f8 w v l) :
    Calls Try.prog 17 #[v] w fun e w' => e = .returned (.int .u32 (W32 (Crc.sum l))) ∧ w = w' := by
  go_enter Try.func17, Try.ntmps17
  go_wp2_with (go_at_call 18; refine (rmore_any lo hi _ 0#32 v l hv).mono ?_; rintro e w1 ⟨rfl, rfl⟩)
  go_ret
  exact ⟨rfl, rfl⟩
end Go.Proofs.Ytckmeomhcikmoaa
