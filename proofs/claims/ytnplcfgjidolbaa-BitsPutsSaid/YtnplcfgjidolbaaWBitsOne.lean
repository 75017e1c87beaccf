/- BitsOne: the walk. -/
import Derived.Test.YtnplcfgjidolbaaKnown
import Derived.Test.YtnplcfgjidolbaaSame
import Derived.Test.YtnplcfgjidolbaaRow
import Derived.Deep.RegionHeld3
import Derived.Deep.OwnRows
import Derived.Outline
namespace Go.Proofs.Ytnplcfgjidolbaa
open Go.RowKit
theorem Wr.below {w w' : World} {B N : Nat} {r : Option Nat} {L : List Bool} (h : Wr w B r L) (hb : Below N w w') (hN : w.heap.size ≤ N) : Wr w' B r L := by
  obtain ⟨⟨v, h1, h2, h3⟩, hne⟩ := h
  have hlt : ∀ k o, w.heap[k]? = some o → k < w.heap.size := fun k o hk => by
    rcases Nat.lt_or_ge k w.heap.size with h | h
    · exact h
    · rw [Array.getElem?_eq_none h] at hk; cases hk
  refine ⟨⟨v, by rw [hb.block _ (Nat.lt_of_lt_of_le (hlt _ _ h1) hN)]; exact h1, own_of_same h2 (fun k hk => ?_), h3⟩, hne⟩
  obtain ⟨_, ⟨rfl, _⟩ | ⟨g, cap, cur, rfl, e1, e2, _⟩⟩ := h2
  · cases hk
  · cases hk
    exact hb.block _ (Nat.lt_of_lt_of_le (hlt _ _ e2) hN)
theorem Wr.gro {w w' : World} {B p : Nat} {r r' : Option Nat} {L : List Bool} (h : Wr w B r L) (g : Gro p r' w w') (h1 : B ≠ p) (h2 : some B ≠ r') (h3 : ∀ k, r = some k → k ≠ p ∧ some k ≠ r') : Wr w' B r L := by
  obtain ⟨⟨v, e1, e2, e3⟩, hne⟩ := h
  have hlt : ∀ k o, w.heap[k]? = some o → k < w.heap.size := fun k o hk => by
    rcases Nat.lt_or_ge k w.heap.size with h | h
    · exact h
    · rw [Array.getElem?_eq_none h] at hk; cases hk
  refine ⟨⟨v, by rw [g.block _ (hlt _ _ e1) h1 h2]; exact e1, own_of_same e2 (fun k hk => ?_), e3⟩, hne⟩
  have hk2 := h3 k (e3.symm.trans hk)
  obtain ⟨_, ⟨rfl, _⟩ | ⟨g', cap, cur, rfl, e4, e5, _⟩⟩ := e2
  · cases hk
  · cases hk
    exact g.block _ (hlt _ _ e5) hk2.1 hk2.2
end Go.Proofs.Ytnplcfgjidolbaa
namespace Go.Proofs.Ytnplcfgjidolbaa.bitsOne
open Go.RowKit
theorem take_sl {lo hi : Nat} {w : World} {ao : Option Addr} {cap : Nat} {l : List UInt8} (h : SlC lo hi f8 w ao cap l) (k : Nat) (hk : k ≤ l.length) : Sl lo hi f8 w (.slice ao k cap) (l.take k) := by
  have e : (l.take k).length = k := by rw [List.length_take]; omega
  refine ⟨ao, cap, by rw [e], by have := h.len; omega, h.nn, fun hne => ?_, by have := h.le; omega⟩
  obtain ⟨b, off, h1, h2, h3, h4⟩ := h.cells (fun e2 => hne (by subst e2; simp))
  exact ⟨b, off, h1, h2, h3, fun j hj => by rw [List.getElem_take]; exact h4 j (by omega)⟩

theorem sameB_refl (l : List UInt8) : sameB l l = true := by simp [sameB]

theorem rvg_err (U : List Bool) (f : Nat) : ∀ i a acc er, Bt.rvg U f i a acc = .inl er → er = 20 ∨ er = 21 := by
  induction f with
  | zero => intro i a acc er h; simp [Bt.rvg] at h; exact Or.inr h.symm
  | succ f ih =>
    intro i a acc er h
    rw [Bt.rvg] at h
    split at h
    · cases h; exact Or.inl rfl
    · split at h
      · cases h; exact Or.inr rfl
      · split at h
        · split at h
          · cases h; exact Or.inr rfl
          · cases h
        · exact ih _ _ _ _ h

set_option maxRecDepth 100000 in
theorem walk' (v0 : Value) (l0 : List UInt8) (n1 n2 : Nat) (w : World) (w0 : Sl 0 w.heap.size f8 w v0 l0) (h1 : n1 < 18446744073709551616) (h2 : n2 < 18446744073709551616) :
    Calls Try.prog 3 #[v0, .int .u64 n1, .int .u64 n2] w fun e w' => e = .returned (.bool true) ∧ Below w.heap.size w w' := by
  obtain ⟨ao, cap, rfl, hs⟩ := w0
  have hlen := hs.len
  have HS := Lib.hid hs
  clear hs
  by_cases hbig : 100000 < l0.length
  · go_enter Try.func3, Try.ntmps3
    go_wp2_with (first
      | (go_at_call 10; refine (known_any _).mono ?_; rintro e w1 ⟨rfl, hb1⟩))
    go_ret
    exact ⟨rfl, hb1⟩
  · cases hr : Bt.rv (Bt.unpack l0) 0 with
    | inl er => 
      have HR := Lib.hid hr
      have h20 : ((er : Int) == 0) = false := by
        rcases rvg_err _ _ _ _ _ _ hr with rfl | rfl <;> rfl
      clear hr
      go_enter Try.func3, Try.ntmps3
      go_wp2_with (first
        | (go_at_call 10; refine (known_any _).mono ?_; rintro e w1 ⟨rfl, hb1⟩)
        | (go_at_call 11; refine (read_any _ _ w1 _ l0 ⟨_, cap, rfl, HS.out.same (Same.ofBelow hb1 _ _ (Nat.le_refl _))⟩ hb1.size).mono ?_; rintro e w2 ⟨B, v, hi, rfl, hB, hR2, hb2, hh2, hl2⟩; have HR2 := Lib.hid hR2; clear hR2)
        | (go_at_call 12; refine Calls.mono (by have q := rvarint_any _ _ w2 B 0 v l0 HR2.out hh2; rw [HR.out] at q; exact q) ?_; rintro e w3 ⟨rfl, hR3, hg3⟩; have HR3 := Lib.hid hR3; clear hR3)
        | (go_at_call 13; refine (left_any _ _ w3 B 0 v l0 HR3.out).mono ?_; rintro e w8 ⟨rfl, m, hw8⟩; have s4 : Below w3.heap.size w3 w8 := (by rw [hw8]; exact ⟨rfl, rfl, rfl, Nat.le_refl _, fun _ _ => rfl⟩); clear hw8)
        | (go_at_call 14; fail))
      have k5 : Below w.heap.size w w3 := ((hb1.trans (hb2.mono hb1.size)).trans (hg3.below (by have := hb1.size; have := hb2.size; omega) (by have := hb1.size; omega) (by simp)))
      have hw8b : Below w.heap.size w w8 := k5.trans (s4.mono k5.size)
      clear k5 s4 hb1 hb2 hg3
      have L0 : ([] : List Bool).length < 1099511627000 := by decide
      have M1 : n1 ≤ n2 → (Bt.vb n1).length ≤ (Bt.vb n2).length := Bt.vb_mono n1 n2
      have M2 : n2 ≤ n1 → (Bt.vb n2).length ≤ (Bt.vb n1).length := Bt.vb_mono n2 n1
      have M3 : decide (((Bt.vb n1).length : Int) ≤ 80) = true := by have := (Bt.vb_le n1 h1).1; simp; omega
      have M4 : decide (((Bt.vb n2).length : Int) ≤ 80) = true := by have := (Bt.vb_le n2 h2).1; simp; omega
      rcases Nat.le_total n1 n2 with hmm | hmm
      all_goals
        first | (have M1 := M1 hmm; clear M2) | (have M2 := M2 hmm; clear M1)
        go_wp2_with (first
          | (go_at_call 14; have _ := HX.out; refine (new2_any _).mono ?_; rintro e wy ⟨rfl, hWy, hby, hsy⟩; have HY := Lib.hid hWy; have HX2 := Lib.hid (HX.out.below hby (Nat.le_refl _)); have HSY := Lib.hid hsy; clear hWy hsy)
          | (go_at_call 14; refine (new2_any _).mono ?_; rintro e wx ⟨rfl, hWx, hbx, hsx⟩; have HX := Lib.hid hWx; have HSX := Lib.hid hsx; clear hWx hsx)
          | (go_at_call 15; have _ := HX3.out; refine Calls.mono (by with_reducible first | exact varint_any _ _ _ [] n1 HY3.out L0 h1 | exact varint_any _ _ _ [] n2 HY3.out L0 h2) ?_; rintro e w2x ⟨rfl, r2x, hWy2, hgy2, hny2⟩; have HY4 := Lib.hid hWy2; have HG4 := Lib.hid hgy2; have HX4 := Lib.hid (HX3.out.gro hgy2 (by have := HSX.out; omega) (by simp) (fun k hk => by have q1 := hnx2 k hk; have q2 := HSY.out; simp at q1; exact ⟨by omega, by simp⟩)); clear hWy2 hgy2)
          | (go_at_call 15; refine Calls.mono (by with_reducible first | exact varint_any _ _ _ [] n1 HX2.out L0 h1 | exact varint_any _ _ _ [] n2 HX2.out L0 h2) ?_; rintro e w1x ⟨rfl, r1x, hWx2, hgx2, hnx2⟩; have HX3 := Lib.hid hWx2; have HY3 := Lib.hid (HY.out.gro hgx2 (by have := HSX.out; omega) (by simp) (by simp)); have HG3 := Lib.hid hgx2; clear hWx2 hgx2)
          | (go_at_call 18; refine Calls.mono (by with_reducible exact len_any _ _ _ _ HY4.out) ?_; rintro e wz ⟨rfl, rfl⟩)
          | (go_at_call 18; refine Calls.mono (by with_reducible exact len_any _ _ _ _ HX4.out) ?_; rintro e wz ⟨rfl, rfl⟩))
        all_goals
          go_ret
          refine ⟨rfl, ?_⟩
          have z1 : Below w.heap.size w w8 := hw8b
          have z2 := z1.size
          have z3 := HSX.out
          have z4 := HSY.out
          have z5 : Below w.heap.size w wy := (z1.trans (hbx.mono z2)).trans (hby.mono (by omega))
          have z6 := HG3.out.below (B := w.heap.size) (by omega) (by omega) (by simp)
          have z7 := HG4.out.below (B := w.heap.size) (by have := z6.size; omega) (by omega) (by simp)
          exact (z5.trans z6).trans z7
    | inr p =>
      obtain ⟨x, a'⟩ := p
      obtain ⟨q1, q2, q3, q4, q5⟩ := Bt.rv_ok hr
      obtain ⟨n, rfl⟩ : ∃ n, a' = 8 * n := ⟨a' / 8, by omega⟩
      rw [Bt.unpack_len] at q3
      have q6 : Bt.pack (Bt.vb x) = l0.take n := by
        rw [← q4, List.drop_zero, Nat.sub_zero]; exact Bt.pack_take_unpack l0 n (by omega)
      have HR := Lib.hid hr
      have Q6 := Lib.hid q6
      have q7 : ((8 * (l0.length : Int) - (8 * (l0.length : Int) - 8 * (n : Int))) / 8) = (n : Int) := by omega
      have g1 : decide ((n : Int) < 1) = false := by simp; omega
      have g2 : decide ((l0.length : Int) < (n : Int)) = false := by simp; omega
      have g3 : decide (l0.length < n) = false := by simp; omega
      obtain ⟨b, off, rfl, -, -, -⟩ := HS.out.cells (by intro e; subst e; simp at q3; omega)
      have b1 : (0 : Int) ≤ (n : Int) := by omega
      have b3 : n ≤ cap := Nat.le_trans (by omega) HS.out.le
      have b2 : (n : Int) ≤ (cap : Int) := by omega
      clear hr q4 q5 q6
      go_enter Try.func3, Try.ntmps3
      go_wp2_with (first
        | (go_at_call 10; refine (known_any _).mono ?_; rintro e w1 ⟨rfl, hb1⟩)
        | (go_at_call 11; refine (read_any _ _ w1 _ l0 ⟨_, cap, rfl, HS.out.same (Same.ofBelow hb1 _ _ (Nat.le_refl _))⟩ hb1.size).mono ?_; rintro e w2 ⟨B, v, hi, rfl, hB, hR2, hb2, hh2, hl2⟩; have HR2 := Lib.hid hR2; clear hR2)
        | (go_at_call 12; refine Calls.mono (by have q := rvarint_any _ _ w2 B 0 v l0 HR2.out hh2; rw [HR.out] at q; exact q) ?_; rintro e w3 ⟨rfl, hR3, hg3⟩; have HR3 := Lib.hid hR3; clear hR3)
        | (go_at_call 13; refine (left_any _ _ w3 B (8 * n) v l0 HR3.out).mono ?_; rintro e w4 ⟨rfl, m, rfl⟩)
        | (go_at_call 14; refine (new2_any _).mono ?_; rintro e w5 ⟨rfl, hW5, hb5, hs5⟩; have HW5 := Lib.hid hW5; clear hW5)
        | (go_at_call 15; refine Calls.mono (by exact varint_new (w3.drewN m).heap.size w5 (w3.drewN m).heap.size none [] x HW5.out (by decide) q1 (by simp) (Nat.le_refl _) (by omega)) ?_; rintro e w6 ⟨rfl, r6, hW6, hb6, hr6⟩; have HW6 := Lib.hid hW6; clear hW6))
      have HB : ∀ wx, Below w6.heap.size w6 wx → Calls Try.prog 17 #[.pointer (some ⟨w3.heap.size, 0, none⟩)] wx (fun e w' => ∃ v', e = .returned v' ∧ Sl wx.heap.size w'.heap.size f8 w' v' (l0.take n) ∧ Below wx.heap.size wx w' ∧ Below w6.heap.size w6 w') := fun wx hx => by
        refine (bytes_sl wx _ r6 _ (HW6.out.below hx (Nat.le_refl _)) (by have := Bt.vb_le x q1; simp; omega)).mono ?_
        rintro e w' ⟨v', rfl, h3, h4⟩
        rw [List.nil_append, Q6.out] at h3
        exact ⟨v', rfl, h3, h4, hx.trans (h4.mono hx.size)⟩
      have HB := Lib.hid HB
      have k5 : Below w.heap.size w w3 := ((hb1.trans (hb2.mono hb1.size)).trans (hg3.below (by have := hb1.size; have := hb2.size; omega) (by have := hb1.size; omega) (by simp)))
      have k6 : Below w.heap.size w w6 := by
        have h5 := hb5.trans hb6
        have h6 := h5.mono (B' := w.heap.size) (by have := k5.size; exact this)
        exact ⟨h6.os.trans k5.os, h6.tape.trans k5.tape, h6.output.trans k5.output, Nat.le_trans k5.size h6.size, fun k hk => (h6.block k hk).trans (k5.block k hk)⟩
      have HK6 := Lib.hid k6
      have HT : ∀ wx, Below w6.heap.size w6 wx → Sl 0 w.heap.size f8 wx (.slice (some ⟨b, off, none⟩) n cap) (l0.take n) := fun wx hx =>
        (take_sl HS.out n (by omega)).same ((Same.ofBelow k6 _ _ (Nat.le_refl _)).trans (Same.ofBelow (hx.mono k6.size) _ _ (Nat.le_refl _)))
      have HT := Lib.hid HT
      have s0 : Below w6.heap.size w6 w6.drew := ⟨rfl, rfl, rfl, Nat.le_refl _, fun _ _ => rfl⟩
      go_region_held3 (fun w' => Below w6.heap.size w6 w') (first | assumption | (exact Below.alloc (by assumption) (Below.size (by assumption)) _)) (first
        | (go_at_call 17; with_reducible refine Calls.mono (HB.out _ ?_) ?_; (first | assumption | exact Below.alloc (by assumption) (Below.size (by assumption)) _); rintro e w7 ⟨v7, rfl, hs7, hb7, s7⟩)
        | (go_at_call 16; refine (same_any _ _ _ _ _ v7 _ (l0.take n) (l0.take n) hs7 (HT.out _ (by assumption))).mono ?_; rintro e w8 ⟨rfl, m8, hw8⟩; rw [sameB_refl]; have s8 : Below w6.heap.size w6 w8 := (by rw [hw8]; exact ⟨s7.os, s7.tape, s7.output, s7.size, s7.block⟩); clear hw8))
      all_goals
        have hw8b : Below w.heap.size w w8 := HK6.out.trans (s8.mono HK6.out.size)
        have L0 : ([] : List Bool).length < 1099511627000 := by decide
        have M1 : n1 ≤ n2 → (Bt.vb n1).length ≤ (Bt.vb n2).length := Bt.vb_mono n1 n2
        have M2 : n2 ≤ n1 → (Bt.vb n2).length ≤ (Bt.vb n1).length := Bt.vb_mono n2 n1
        have M3 : decide (((Bt.vb n1).length : Int) ≤ 80) = true := by have := (Bt.vb_le n1 h1).1; simp; omega
        have M4 : decide (((Bt.vb n2).length : Int) ≤ 80) = true := by have := (Bt.vb_le n2 h2).1; simp; omega
        rcases Nat.le_total n1 n2 with hmm | hmm
        all_goals
          first | (have M1 := M1 hmm; clear M2) | (have M2 := M2 hmm; clear M1)
          go_wp2_with (first
            | (go_at_call 14; have _ := HX.out; refine (new2_any _).mono ?_; rintro e wy ⟨rfl, hWy, hby, hsy⟩; have HY := Lib.hid hWy; have HX2 := Lib.hid (HX.out.below hby (Nat.le_refl _)); have HSY := Lib.hid hsy; clear hWy hsy)
            | (go_at_call 14; refine (new2_any _).mono ?_; rintro e wx ⟨rfl, hWx, hbx, hsx⟩; have HX := Lib.hid hWx; have HSX := Lib.hid hsx; clear hWx hsx)
            | (go_at_call 15; have _ := HX3.out; refine Calls.mono (by with_reducible first | exact varint_any _ _ _ [] n1 HY3.out L0 h1 | exact varint_any _ _ _ [] n2 HY3.out L0 h2) ?_; rintro e w2x ⟨rfl, r2x, hWy2, hgy2, hny2⟩; have HY4 := Lib.hid hWy2; have HG4 := Lib.hid hgy2; have HX4 := Lib.hid (HX3.out.gro hgy2 (by have := HSX.out; omega) (by simp) (fun k hk => by have q1 := hnx2 k hk; have q2 := HSY.out; simp at q1; exact ⟨by omega, by simp⟩)); clear hWy2 hgy2)
            | (go_at_call 15; refine Calls.mono (by with_reducible first | exact varint_any _ _ _ [] n1 HX2.out L0 h1 | exact varint_any _ _ _ [] n2 HX2.out L0 h2) ?_; rintro e w1x ⟨rfl, r1x, hWx2, hgx2, hnx2⟩; have HX3 := Lib.hid hWx2; have HY3 := Lib.hid (HY.out.gro hgx2 (by have := HSX.out; omega) (by simp) (by simp)); have HG3 := Lib.hid hgx2; clear hWx2 hgx2)
            | (go_at_call 18; refine Calls.mono (by with_reducible exact len_any _ _ _ _ HY4.out) ?_; rintro e wz ⟨rfl, rfl⟩)
            | (go_at_call 18; refine Calls.mono (by with_reducible exact len_any _ _ _ _ HX4.out) ?_; rintro e wz ⟨rfl, rfl⟩))
          all_goals
            go_ret
            refine ⟨rfl, ?_⟩
            have z1 : Below w.heap.size w w8 := hw8b
            have z2 := z1.size
            have z3 := HSX.out
            have z4 := HSY.out
            have z5 : Below w.heap.size w wy := (z1.trans (hbx.mono z2)).trans (hby.mono (by omega))
            have z6 := HG3.out.below (B := w.heap.size) (by omega) (by omega) (by simp)
            have z7 := HG4.out.below (B := w.heap.size) (by have := z6.size; omega) (by omega) (by simp)
            exact (z5.trans z6).trans z7

theorem walk (v0 : Value) (l0 : List UInt8) (a1 : Int) (a2 : Int) (w : World) (w0 : Sl 0 w.heap.size f8 w v0 l0) (w1 : (Lit.int .u64 a1).wf = true) (w2 : (Lit.int .u64 a2).wf = true) :
    Calls Try.prog 3 #[v0, .int .u64 a1, .int .u64 a2] w fun e w' => e = .returned (.bool true) ∧ Below w.heap.size w w' := by
  have h1 : 0 ≤ a1 ∧ a1 < 18446744073709551616 := by
    have := w1; simp [Lit.wf, IntKind.min, IntKind.max, IntKind.signed, IntKind.bits] at this; omega
  have h2 : 0 ≤ a2 ∧ a2 < 18446744073709551616 := by
    have := w2; simp [Lit.wf, IntKind.min, IntKind.max, IntKind.signed, IntKind.bits] at this; omega
  obtain ⟨n1, rfl⟩ := Int.eq_ofNat_of_zero_le h1.1
  obtain ⟨n2, rfl⟩ := Int.eq_ofNat_of_zero_le h2.1
  exact walk' v0 l0 n1 n2 w w0 (by omega) (by omega)
end Go.Proofs.Ytnplcfgjidolbaa.bitsOne
