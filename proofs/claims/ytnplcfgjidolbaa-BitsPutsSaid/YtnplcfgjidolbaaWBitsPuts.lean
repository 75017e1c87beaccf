/- BitsPuts: the walk. -/
import Derived.Test.YtnplcfgjidolbaaPutsPlain
namespace Go.Proofs.Ytnplcfgjidolbaa.bitsPuts
open Go.RowKit bitsBack

set_option maxHeartbeats 4000000 in
set_option maxRecDepth 100000 in
theorem walk (ao : Option Addr) (cap : Nat) (l : List Opv) (w : World) (h : Ops w.heap.size w ao cap l) :
    Calls Try.prog 4 #[.slice ao l.length cap] w fun e w' => e = .returned (.bool true) ∧ Below w.heap.size w w' := by
  have hv := vs_of h
  have hml : l.length ≤ 9223372036854775807 := h.len
  have HH := Lib.hid h
  clear h
  have HL : ∀ i : Nat, i ≤ l.length → (pre l i).length ≤ 80 * i := by
    intro i
    induction i with
    | zero => intro _; simp [pre_zero]
    | succ i ih =>
      intro hi
      rw [pre_succ l i (by omega), List.length_append]
      have := ih (by omega)
      have := opBits_le l[i] (hv _ (List.getElem_mem _)).1
      omega
  have HL := Lib.hid HL
  go_enter Try.func4, Try.ntmps4
  go_upto_region 4 with (first
    | (go_at_call 14; refine (new2_any _).mono ?_; rintro e w1 ⟨rfl, hW1, hb1, hs1⟩; have HW1 := Lib.hid hW1; have HS1 := Lib.hid hs1; clear hW1 hs1)
    | (go_at_call 10; refine (known_any _).mono ?_; rintro e w2 ⟨rfl, hb2⟩))
  have HPS := Lib.hid (ps_start (HW1.out.below hb2 (Nat.le_refl _)) (hb1.trans (hb2.mono hb1.size)) (by have := HS1.out; have := hb2.size; omega))
  clear hb1 hb2
  go_wp2_with fail
  go_loopw [6] (fun i wr => ∃ (k : Nat) (r rx : Option Nat) (vb : Value) (vs : List Value) (ln : Nat → Nat), i = .int .i64 k ∧ k ≤ l.length ∧ k ≤ 2000 ∧ Ps w wr w.heap.size w2.heap.size (w2.heap.size + 1) (pre l k) k r rx vb vs ln) (fun i _ => 2000 - (intOf i).toNat)
  case atStart => exact ⟨0, _, _, _, _, _, rfl, Nat.zero_le _, Nat.zero_le _, HPS.out⟩
  case round =>
    obtain ⟨k, r, rx, vb, vs, ln, rfl, hk, hk2, hps⟩ := hrel
    have HP := Lib.hid hps
    clear hps HPS
    by_cases hlt : k < l.length ∧ k < 2000
    · obtain ⟨hll, hlm⟩ := hlt
      obtain ⟨b, off, rfl, hbh, hcell⟩ := (HH.out.below HP.out.below (Nat.le_refl _)).cells (by intro e; subst e; simp at hll)
      obtain ⟨c0, c1, c2, hk0, hv0, hn0⟩ := hcell k hll
      have i1 : (0 : Int) ≤ (k : Int) ∧ (k : Int) < (l.length : Int) := by omega
      have hpr := pre_succ l k hll
      have HLk := HL.out k hk
      have HLk1 := HL.out (k + 1) hll
      have HPR := Lib.hid hpr
      clear hcell hpr
      generalize l[k] = x at *
      have hc := puts_any wr w.heap.size w2.heap.size r rx (pre l k) x HP.out.tw (by omega) hv0 hk0
      rw [← HPR.out] at hc
      have HC := Lib.hid hc
      clear hc
      generalize hL' : pre l (k + 1) = L' at *
      have HL' := Lib.hid hL'
      clear hL'
      go_wp2_with (go_at_call 19; refine Calls.mono HC.out ?_; rintro e w3 hp; obtain ⟨rfl, r1, rx1, hq⟩ := HP.out.puts hp; obtain ⟨⟨xv, hxB, hxown, _⟩, _⟩ := hq.tw.b; obtain ⟨xa, xc, rfl⟩ := own_slice hxown; have s0 := (two_cells hxB).1; have HQ := Lib.hid (hq.below' (drew_below w3 _)); have HC18 := Lib.hid (len_any w3.drew _ r1 L' HQ.out.tw.a); clear hp hq hxB hxown)
      have s1 : w3.drew.cell? ⟨w2.heap.size, 0, none⟩ = some (.slice xa L'.length xc) := s0
      go_region_held3 (fun w' => w'.cell? ⟨w2.heap.size, 0, none⟩ = some (.slice xa L'.length xc)) (first | assumption) (first | (go_at_call 18; refine Calls.mono HC18.out ?_; rintro e wy ⟨rfl, rfl⟩))
      have hsm : sameB (Bt.pack L') (Bt.pack L') = true := by simp [sameB]
      by_cases h16 : k % 16 = 0
      · have h16' : (((k : Int) % 16) == 0) = true := by simp; omega
        all_goals go_wp2_with (first
          | (go_at_call 17; refine (bytes_ps HQ.out (by omega)).mono ?_; rintro e w4 ⟨v4, rfl, ho4⟩; have HO4 := Lib.hid ho4; clear ho4)
          | (go_at_call 20; refine (book_ps HO4.out (by omega) (by omega)).mono ?_; rintro e w5 ⟨rfl, hi5⟩; have HI5 := Lib.hid hi5; clear hi5)
          | (go_at_call 21; refine (xbytes_ps HI5.out (by omega)).mono ?_; rintro e w6 ⟨v6, rfl, hi6, hs6, ht6⟩; have HI6 := Lib.hid hi6; have HS6 := Lib.hid hs6; have HT6 := Lib.hid ht6; clear hi6 hs6 ht6)
          | (go_at_call 16; refine (same_any _ _ _ _ _ _ _ _ _ HS6.out HT6.out).mono ?_; rintro e w7 ⟨rfl, n7, rfl⟩))
        go_roundw
        case rel =>
          obtain ⟨r2, rx2, vb2, vs2, ln2, hp2, _⟩ := HI6.out
          exact ⟨k + 1, r2, rx2, vb2, vs2, ln2, by push_cast; rfl, hll, hlm, by rw [HL'.out]; exact hp2.below' (drewN_below _ _ _)⟩
        case measure => simp [intOf]; omega
      · have h16' : (((k : Int) % 16) == 0) = false := by simp; omega
        all_goals go_wp2_with fail
        go_roundw
        case rel => exact ⟨k + 1, r1, rx1, vb, vs, ln, by push_cast; rfl, hll, hlm, by rw [HL'.out]; exact HQ.out.mono (Nat.le_succ k)⟩
        case measure => simp [intOf]; omega
    · have HLk := HL.out k hk
      have hsm : sameB (Bt.pack (pre l k)) (Bt.pack (pre l k)) = true := by simp [sameB]
      have hcase : k = l.length ∨ (k < l.length ∧ k = 2000) := by omega
      rcases hcase with rfl | ⟨hlt, rfl⟩
      all_goals
        go_wp2_with (first
          | (go_at_call 17; refine (bytes_ps HP.out (by omega)).mono ?_; rintro e w4 ⟨v4, rfl, ho4⟩; have HO4 := Lib.hid ho4; clear ho4)
          | (go_at_call 20; refine (book_ps HO4.out (by omega) (by omega)).mono ?_; rintro e w5 ⟨rfl, hi5⟩; have HI5 := Lib.hid hi5; clear hi5)
          | (go_at_call 21; refine (xbytes_ps HI5.out (by omega)).mono ?_; rintro e w6 ⟨v6, rfl, hi6, hs6, ht6⟩; have HI6 := Lib.hid hi6; have HS6 := Lib.hid hs6; have HT6 := Lib.hid ht6; clear hi6 hs6 ht6)
          | (go_at_call 16; refine (same_any _ _ _ _ _ _ _ _ _ HS6.out HT6.out).mono ?_; rintro e w7 ⟨rfl, n7, rfl⟩)
          | (go_at_call 22; obtain ⟨r2, rx2, vb2, vs2, ln2, hp2, _⟩ := HI6.out; have hp3 := hp2.below' (drewN_below _ _ n7); refine (own_any _ w.heap.size _ _ _ _ _ _ _ hp3.book hp3.ln (fun _ => Nat.zero_le _) (by have := hp3.len; omega) (by simp) hp3.below.size).mono ?_; rintro e w8 ⟨rfl, hb8⟩; have HB8 := Lib.hid (hp3.below.trans hb8); clear hp2 hp3 hb8))
        go_ret
        exact ⟨rfl, HB8.out⟩
end Go.Proofs.Ytnplcfgjidolbaa.bitsPuts
