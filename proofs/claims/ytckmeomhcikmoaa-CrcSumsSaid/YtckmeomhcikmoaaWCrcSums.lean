/- The walk of CrcSums. No condition. -/
import Derived.Test.YtckmeomhcikmoaaCrcKnown
import Derived.Test.YtckmeomhcikmoaaRow
namespace Go.Proofs.Ytckmeomhcikmoaa.crcSums
open Go.RowKit
theorem eq32 (x : BitVec 32) : (W32 x == W32 x) = true := by simp

theorem walk (a0 : Int) (a1 : Option Addr) (len1 cap1 : Nat) (z1 : List Int) (w : World) (w0 : (Lit.int .u32 a0).wf = true) (w1 : IsRow .u8 w a1 len1 cap1 z1) :
    Calls Try.prog 3 #[.int .u32 a0, .slice a1 len1 cap1] w fun e w' => e = .returned (.bool true) ∧ Below w.heap.size w w' := by
  obtain ⟨s, rfl⟩ := of_wf32 w0
  by_cases hlen : 100000 < len1
  · go_enter Try.func3, Try.ntmps3
    go_wp2
    go_ret
    exact ⟨rfl, Below.refl _ _⟩
  · obtain ⟨l, rfl, hv⟩ := w1.sl (by omega)
    have hl := hv.len
    clear w1 w0
    have hsl : Sl 0 w.heap.size f8 w (.slice a1 l.length cap1) l := ⟨_, _, rfl, hv⟩
    have HSL := Lib.hid hsl
    clear hv hsl
    go_enter Try.func3, Try.ntmps3
    go_wp2_with fail
    refine (lent_any 0 w.heap.size w _ l HSL.out (Nat.le_refl _)).mono ?_
    rintro e w1 ⟨g, rfl, hg0, hg, hb1⟩
    have hgs : g < w1.heap.size := by
      rcases Nat.lt_or_ge g w1.heap.size with h | h
      · exact h
      · rw [Array.getElem?_eq_none h] at hg; cases hg
    have h1 := Lib.hid (lent_sl hl hg)
    have HG := Lib.hid hg
    clear hg
    go_wp2_with fail
    refine (sum_any g (g + 1) _ _ l h1.out hgs).mono ?_
    rintro e w2 ⟨rfl, hb2⟩
    go_wp2_with fail
    refine (more_any g (g + 1) _ s _ l (h1.out.below hb2 hgs) (by have := hb2.size; omega)).mono ?_
    rintro e w3 ⟨rfl, hb3⟩
    have hb13 : Below w1.heap.size w1 w3 := hb2.trans (hb3.mono hb2.size)
    go_wp2_with fail
    refine (more_any g (g + 1) _ s _ l (h1.out.below hb13 hgs) (by have := hb13.size; omega)).mono ?_
    rintro e w4 ⟨rfl, hb4⟩
    have hb14 : Below w1.heap.size w1 w4 := hb13.trans (hb4.mono hb13.size)
    have hb04 : Below w.heap.size w w4 := hb1.trans (hb14.mono hb1.size)
    have hg4 : w4.heap[g]? = some (.cells (l.map f8 ++ [Value.int .u8 91, Value.int .u8 92]).toArray 5 (0, 0)) := (hb14.block g hgs).trans HG.out
    have HG4 := Lib.hid hg4
    clear hg4
    go_wp2_with fail
    refine (whole_any 0 w.heap.size g _ _ l l hl HG4.out (HSL.out.below hb04 (Nat.le_refl _))).mono ?_
    rintro e w5 ⟨rfl, n, rfl⟩
    rw [show sameB l l = true from by simp [sameB]]
    go_wp2_with fail
    refine (crcKnown_any _).mono ?_
    rintro e w6 ⟨rfl, hb6⟩
    have hb06 : Below w.heap.size w w6 := by
      have h : Below w.heap.size w (w4.drewN n) := ⟨hb04.os, hb04.tape, hb04.output, hb04.size, hb04.block⟩
      exact h.trans (hb6.mono h.size)
    go_wp2_with fail
    refine (rsum_any 0 w.heap.size _ _ l (HSL.out.below hb06 (Nat.le_refl _))).mono ?_
    rintro e w7 ⟨rfl, rfl⟩
    have e1 := eq32 (Crc.sum l)
    have e2 := eq32 (Crc.more s l)
    go_wp2_with fail
    refine (rmore_any 0 w.heap.size _ s _ l (HSL.out.below hb06 (Nat.le_refl _))).mono ?_
    rintro e w8 ⟨rfl, rfl⟩
    go_wp2_with fail
    go_ret
    exact ⟨rfl, hb06⟩
end Go.Proofs.Ytckmeomhcikmoaa.crcSums
