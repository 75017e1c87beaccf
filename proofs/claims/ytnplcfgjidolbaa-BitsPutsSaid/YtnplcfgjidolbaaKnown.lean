/- What the chapter's example fixes: the statements' function known. -/
import Derived.Test.YtnplcfgjidolbaaReader3
namespace Go.Proofs.Ytnplcfgjidolbaa
open Go.RowKit

theorem new2_any (w : World) : Calls Try.prog 14 #[] w fun e w' => e = .returned (.pointer (some ⟨w.heap.size, 0, none⟩)) ∧ Wr w' w.heap.size none [] ∧ Below w.heap.size w w' ∧ w'.heap.size = w.heap.size + 1 := by
  refine (new_any w).mono ?_
  rintro e w' ⟨rfl, rfl⟩
  exact ⟨rfl, new_wr w, (Below.refl _ _).alloc (Nat.le_refl _) _, by simp⟩
/-- Varint of a new writer. -/
theorem varint_new (n : Nat) (w : World) (B : Nat) (r : Option Nat) (L : List Bool) (v : Nat) (h : Wr w B r L) (hL : L.length < 1099511627000) (hv : v < 18446744073709551616) (hr : ∀ k, r = some k → n ≤ k) (hB : n ≤ B) (hn : n ≤ w.heap.size) :
    Calls Try.prog 15 #[.pointer (some ⟨B, 0, none⟩), .int .u64 v] w fun e w' => e = .returned (.tuple #[]) ∧ ∃ r', Wr w' B r' (L ++ Bt.vb v) ∧ Below n w w' ∧ (∀ k, r' = some k → n ≤ k) := by
  refine (varint_any w B r L v h hL hv).mono ?_
  rintro e w' ⟨rfl, r', h1, h2, h3⟩
  refine ⟨rfl, r', h1, h2.below hn hB hr, fun k hk => ?_⟩
  rcases h3 k hk with h | h
  · exact hr k h
  · omega

theorem bytes_sl (w : World) (B : Nat) (r : Option Nat) (L : List Bool) (h : Wr w B r L) (hL : L.length < 1099511627776) :
    Calls Try.prog 17 #[.pointer (some ⟨B, 0, none⟩)] w fun e w' => ∃ v', e = .returned v' ∧ Sl w.heap.size w'.heap.size f8 w' v' (Bt.pack L) ∧ Below w.heap.size w w' := by
  refine (bytes_any w B r L h hL).mono ?_
  rintro e w' ⟨v', rfl, ho, hb⟩
  exact ⟨v', rfl, (Sl.owns ho (by have := Bt.pack_len L; omega)).mono (Nat.le_refl _) (Nat.le_refl _), hb⟩

theorem known_bytes : Bt.pack (Bt.vb 300) = [172, 2] := by decide +kernel
theorem known_rv : Bt.rv (Bt.unpack [172, 2]) 0 = .inr (300, 16) := by decide +kernel

set_option maxRecDepth 100000 in
theorem known_any (w : World) : Calls Try.prog 10 #[] w fun e w' => e = .returned (.bool true) ∧ Below w.heap.size w w' := by
  go_enter Try.func10, Try.ntmps10
  go_wp2_with (first
    | (go_at_call 14; refine (new2_any _).mono ?_; rintro e w1 ⟨rfl, hW1, hb1, hs1⟩; have HW1 := Lib.hid hW1; clear hW1)
    | (go_at_call 15; refine Calls.mono (by exact varint_new w.heap.size w1 w.heap.size none [] 300 HW1.out (by decide) (by decide) (by simp) (Nat.le_refl _) (by omega)) ?_; rintro e w2 ⟨rfl, r2, hW2, hb2, hr2⟩; have HW2 := Lib.hid hW2; clear hW2)
    | (go_at_call 17; refine (bytes_sl w2 w.heap.size r2 (Bt.vb 300) HW2.out (by decide +kernel)).mono ?_; rintro e w3 ⟨v3, rfl, hs3, hb3⟩; rw [known_bytes] at hs3; obtain ⟨ao3, cap3, rfl, hc3⟩ := hs3)
    | (go_at_call 11; refine (read_any _ _ w3 _ [172, 2] ⟨ao3, cap3, rfl, hc3⟩ (Nat.le_refl _)).mono ?_; rintro e w4 ⟨B4, v4, hi4, rfl, hB4, hR4, hb4, hh4, hl4⟩; have HR4 := Lib.hid hR4; clear hR4)
    | (go_at_call 12; refine Calls.mono (by have q := rvarint_any _ _ w4 B4 0 v4 [172, 2] HR4.out hh4; rw [known_rv] at q; exact q) ?_; rintro e w5 ⟨rfl, hR5, hg5⟩; have HR5 := Lib.hid hR5; clear hR5)
    | (go_at_call 26; refine (rbit_short _ _ w5 B4 16 v4 [172, 2] HR5.out (by decide)).mono ?_; rintro e w6 ⟨rfl, m6, rfl⟩;
       have hS := hc3.same (w' := w5.drewN m6) (fun k h1 h2 => (hg5.block k (by have := hb4.size; omega) (by omega) (by simp)).trans (hb4.block k h2));
       obtain ⟨b3, o3, rfl, hlo3, hhi3, hcell3⟩ := hS.cells (by decide); have q0 : (w5.drewN m6).cell? ⟨b3, o3, none⟩ = some (.int .u8 172) := hcell3 0 (by decide); have q1 : (w5.drewN m6).cell? ⟨b3, o3 + 1, none⟩ = some (.int .u8 2) := hcell3 1 (by decide);
       clear hcell3 hS))
  go_ret
  have q5 : Below w.heap.size w4 w5 := hg5.below (by have := hb1.size; have := hb2.size; have := hb3.size; have := hb4.size; omega) (by have := hb2.size; have := hb3.size; omega) (by simp)
  refine ⟨rfl, ?_⟩
  have := hb1.size; have := hb2.size; have := hb3.size
  exact ((((hb1.trans hb2).trans (hb3.mono (by omega))).trans (hb4.mono (by omega))).trans ⟨q5.os, q5.tape, q5.output, q5.size, q5.block⟩)
end Go.Proofs.Ytnplcfgjidolbaa
