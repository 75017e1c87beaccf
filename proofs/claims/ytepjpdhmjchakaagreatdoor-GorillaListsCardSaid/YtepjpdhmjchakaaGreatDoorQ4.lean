import Derived.Test.YtepjpdhmjchakaaGreatDoorQ2
import Derived.Test.YtepjpdhmjchakaaGreatDoorQ1
import Derived.Deep.QuietTactic
import Derived.BigQuiet
/- The document's time: how a step is told. Condition: the document's list of buckets reads as its text lays it (BkAt). -/
namespace Go.Proofs.YtepjpdhmjchakaaGreatDoor
open Go.RowKit
set_option linter.unusedVariables false

/-- The list of buckets, where its rows lie. -/
structure BkAt (n : Nat) (w : World) (b o c b0 o0 c0 b1 o1 c1 b2 o2 c2 : Nat) : Prop where
  lt : 0 < n ∧ b < n ∧ b0 < n ∧ b1 < n ∧ b2 < n
  g : w.cell? ⟨0, 0, none⟩ = some (.slice (some ⟨b, o, none⟩) 3 c)
  s0 : w.cell? ⟨b, o, none⟩ = some (.slice (some ⟨b0, o0, none⟩) 5 c0)
  s1 : w.cell? ⟨b, o + 1, none⟩ = some (.slice (some ⟨b1, o1, none⟩) 5 c1)
  s2 : w.cell? ⟨b, o + 2, none⟩ = some (.slice (some ⟨b2, o2, none⟩) 5 c2)
  k00 : w.cell? ⟨b0, o0, none⟩ = some (.int .i64 2)
  k01 : w.cell? ⟨b0, o0 + 1, none⟩ = some (.int .i64 2)
  k02 : w.cell? ⟨b0, o0 + 2, none⟩ = some (.int .i64 (-63))
  k03 : w.cell? ⟨b0, o0 + 3, none⟩ = some (.int .i64 64)
  k04 : w.cell? ⟨b0, o0 + 4, none⟩ = some (.int .i64 7)
  k10 : w.cell? ⟨b1, o1, none⟩ = some (.int .i64 6)
  k11 : w.cell? ⟨b1, o1 + 1, none⟩ = some (.int .i64 3)
  k12 : w.cell? ⟨b1, o1 + 2, none⟩ = some (.int .i64 (-255))
  k13 : w.cell? ⟨b1, o1 + 3, none⟩ = some (.int .i64 256)
  k14 : w.cell? ⟨b1, o1 + 4, none⟩ = some (.int .i64 9)
  k20 : w.cell? ⟨b2, o2, none⟩ = some (.int .i64 14)
  k21 : w.cell? ⟨b2, o2 + 1, none⟩ = some (.int .i64 4)
  k22 : w.cell? ⟨b2, o2 + 2, none⟩ = some (.int .i64 (-2047))
  k23 : w.cell? ⟨b2, o2 + 3, none⟩ = some (.int .i64 2048)
  k24 : w.cell? ⟨b2, o2 + 4, none⟩ = some (.int .i64 12)
theorem BkAt.below {n : Nat} {w w' : World} {b o c b0 o0 c0 b1 o1 c1 b2 o2 c2 : Nat} (h : BkAt n w b o c b0 o0 c0 b1 o1 c1 b2 o2 c2) (hb : Below n w w') : BkAt n w' b o c b0 o0 c0 b1 o1 c1 b2 o2 c2 :=
  ⟨h.lt, (hb.cell (show _ < n from h.lt.1)).trans h.g, (hb.cell (show _ < n from h.lt.2.1)).trans h.s0, (hb.cell (show _ < n from h.lt.2.1)).trans h.s1, (hb.cell (show _ < n from h.lt.2.1)).trans h.s2, (hb.cell (show _ < n from h.lt.2.2.1)).trans h.k00, (hb.cell (show _ < n from h.lt.2.2.1)).trans h.k01, (hb.cell (show _ < n from h.lt.2.2.1)).trans h.k02, (hb.cell (show _ < n from h.lt.2.2.1)).trans h.k03, (hb.cell (show _ < n from h.lt.2.2.1)).trans h.k04, (hb.cell (show _ < n from h.lt.2.2.2.1)).trans h.k10, (hb.cell (show _ < n from h.lt.2.2.2.1)).trans h.k11, (hb.cell (show _ < n from h.lt.2.2.2.1)).trans h.k12, (hb.cell (show _ < n from h.lt.2.2.2.1)).trans h.k13, (hb.cell (show _ < n from h.lt.2.2.2.1)).trans h.k14, (hb.cell (show _ < n from h.lt.2.2.2.2)).trans h.k20, (hb.cell (show _ < n from h.lt.2.2.2.2)).trans h.k21, (hb.cell (show _ < n from h.lt.2.2.2.2)).trans h.k22, (hb.cell (show _ < n from h.lt.2.2.2.2)).trans h.k23, (hb.cell (show _ < n from h.lt.2.2.2.2)).trans h.k24⟩
theorem BkAt.mono {n n' : Nat} {w : World} {b o c b0 o0 c0 b1 o1 c1 b2 o2 c2 : Nat} (h : BkAt n w b o c b0 o0 c0 b1 o1 c1 b2 o2 c2) (hn : n ≤ n') : BkAt n' w b o c b0 o0 c0 b1 o1 c1 b2 o2 c2 :=
  ⟨⟨by have := h.lt; omega, by have := h.lt; omega, by have := h.lt; omega, by have := h.lt; omega, by have := h.lt; omega⟩, h.g, h.s0, h.s1, h.s2, h.k00, h.k01, h.k02, h.k03, h.k04, h.k10, h.k11, h.k12, h.k13, h.k14, h.k20, h.k21, h.k22, h.k23, h.k24⟩

theorem xbits_lit (w : World) (B : Nat) (r : Option Nat) (L : List Bool) (x y : Int) (v n : Nat) (hx : (v : Int) = x) (hy : (n : Int) = y) (h : Xr w B r L) (hL : L.length + n < 1099511627776) (hv : v < 18446744073709551616) (hn : n ≤ 64) :
    Calls Tryz.prog 75 #[.pointer (some ⟨B, 0, none⟩), .int .u64 x, .int .i64 y] w fun e w' => e = .returned (.int .u16 0) ∧ ∃ r', Xr w' B r' (L ++ Bt.nb v n) ∧ Gro B r w w' ∧ Anew w r r' := by
  subst hx hy
  exact xbits_any w B r L v n h hL hv hn
theorem Xr.below {w w' : World} {B : Nat} {r : Option Nat} {L : List Bool} (h : Xr w B r L) (hb : Below w.heap.size w w') : Xr w' B r L := by
  obtain ⟨⟨v, hB, hown, hr⟩, hne⟩ := h
  exact ⟨⟨v, (hb.block B (heap_lt hB)).trans hB, own_of_same hown (fun k hk => hb.block k (hown.lt k hk).2), hr⟩, hne⟩
theorem Xr.lts {w : World} {B : Nat} {r : Option Nat} {L : List Bool} (h : Xr w B r L) : B < w.heap.size ∧ ∀ k, r = some k → k < w.heap.size := by
  obtain ⟨⟨v, hB, hown, hr⟩, hne⟩ := h
  exact ⟨heap_lt hB, fun k hk => (hown.lt k (hr.trans hk)).2⟩
theorem Gro.ofBelow {B : Nat} {r : Option Nat} {w w' : World} (h : Below w.heap.size w w') : Gro B r w w' := ⟨h.os, h.tape, h.output, h.size, fun k hk _ _ => h.block k hk⟩

set_option maxHeartbeats 2000000 in
set_option maxRecDepth 100000 in
theorem xtime_zero {w : World} {n B : Nat} {r : Option Nat} {L : List Bool} {b o c b0 o0 c0 b1 o1 c1 b2 o2 c2 : Nat} (h : Xr w B r L) (hB : n ≤ B) (hr : ∀ k, r = some k → n ≤ k) (hk : BkAt n w b o c b0 o0 c0 b1 o1 c1 b2 o2 c2) (bs off len cap i i1 i2 : Nat) (t0 t1 t2 : Int)
    (hi : (0 : Int) ≤ (i : Int) ∧ (i : Int) < (len : Int)) (h1 : i = i1 + 1) (h2 : i = i2 + 2) (hl : len ≤ 1000000) (p2 : w.cell? ⟨bs, off + i * 2, none⟩ = some (.int .i64 t2)) (p1 : w.cell? ⟨bs, off + i1 * 2, none⟩ = some (.int .i64 t1)) (p0 : w.cell? ⟨bs, off + i2 * 2, none⟩ = some (.int .i64 t0))
    (stp st0 : Nat) (d : Int) (hst : IntKind.u64.wrap (IntKind.u64.wrap t2 - IntKind.u64.wrap t1) = (stp : Int)) (hst0 : IntKind.u64.wrap (IntKind.u64.wrap t1 - IntKind.u64.wrap t0) = (st0 : Int)) (hd : wrap64 (IntKind.u64.wrap ((stp : Int) - st0)) = d) (hL : L.length < 1000000) (h0 : d = 0) :
    Calls Tryz.prog 76 #[.pointer (some ⟨B, 0, none⟩), .slice (some ⟨bs, off, none⟩) len cap, .int .i64 (i : Int)] w fun e w' => e = .returned (.tuple #[]) ∧ ∃ r', Xr w' B r' (L ++ [false]) ∧ Gro B r w w' ∧ Anew w r r' := by
  have w1 : IntKind.i64.wrap ((i : Int) - 1) = (i1 : Int) := by rw [IntKind.wrap_i64]; omega
  have w2 : IntKind.i64.wrap ((i : Int) - 2) = (i2 : Int) := by rw [IntKind.wrap_i64]; omega
  have hi1 : (0 : Int) ≤ (i1 : Int) ∧ (i1 : Int) < (len : Int) := by omega
  have hi2 : (0 : Int) ≤ (i2 : Int) ∧ (i2 : Int) < (len : Int) := by omega
  have gi : ((i : Int) == 1) = false := by simp; omega
  have gd : (d == 0) = true := by simp [h0]
  have HBK := Lib.hid hk
  obtain ⟨hlt, g, s0, s1, s2, k00, k01, k02, k03, k04, k10, k11, k12, k13, k14, k20, k21, k22, k23, k24⟩ := hk
  have HX := Lib.hid h
  have HLB := Lib.hid (show n ≤ w.heap.size by have := h.lts.1; omega)
  have HR := Lib.hid hr
  have HLT := Lib.hid hlt
  clear h hr hlt h1 h2
  go_enter Tryz.func76, Tryz.ntmps76
  go_wp2
  go_quiet (fail)
  go_wp2_with fail
  go_quiet (fail)
  go_wp2_with fail
  refine (xbit_any _ B r L false (HX.out.below (drewN_b _ _)) (by omega)).mono ?_
  rintro e w3 ⟨rfl, r3, hx3, hg3, hn3⟩
  go_wp2_with fail
  (try simp only [Exit.inBlock, Exit.then])
  refine bodyPost_ret (results_none rfl _ _ _) rfl ?_
  exact ⟨rfl, r3, hx3, (Gro.ofBelow (drewN_b _ _)).trans hg3 (Anew.refl _ _), hn3.back (by simp)⟩
set_option maxHeartbeats 2000000 in
set_option maxRecDepth 100000 in
theorem xtime_b1 {w : World} {n B : Nat} {r : Option Nat} {L : List Bool} {b o c b0 o0 c0 b1 o1 c1 b2 o2 c2 : Nat} (h : Xr w B r L) (hB : n ≤ B) (hr : ∀ k, r = some k → n ≤ k) (hk : BkAt n w b o c b0 o0 c0 b1 o1 c1 b2 o2 c2) (bs off len cap i i1 i2 : Nat) (t0 t1 t2 : Int)
    (hi : (0 : Int) ≤ (i : Int) ∧ (i : Int) < (len : Int)) (h1 : i = i1 + 1) (h2 : i = i2 + 2) (hl : len ≤ 1000000) (p2 : w.cell? ⟨bs, off + i * 2, none⟩ = some (.int .i64 t2)) (p1 : w.cell? ⟨bs, off + i1 * 2, none⟩ = some (.int .i64 t1)) (p0 : w.cell? ⟨bs, off + i2 * 2, none⟩ = some (.int .i64 t0))
    (stp st0 : Nat) (d : Int) (hst : IntKind.u64.wrap (IntKind.u64.wrap t2 - IntKind.u64.wrap t1) = (stp : Int)) (hst0 : IntKind.u64.wrap (IntKind.u64.wrap t1 - IntKind.u64.wrap t0) = (st0 : Int)) (hd : wrap64 (IntKind.u64.wrap ((stp : Int) - st0)) = d) (hL : L.length < 1000000) (h0 : d ≠ 0) (hb : (-63) ≤ d ∧ d ≤ 64) :
    Calls Tryz.prog 76 #[.pointer (some ⟨B, 0, none⟩), .slice (some ⟨bs, off, none⟩) len cap, .int .i64 (i : Int)] w fun e w' => e = .returned (.tuple #[]) ∧ ∃ r', Xr w' B r' (L ++ (Bt.nb 2 2 ++ Bt.nb (d + 63).toNat 7)) ∧ Gro B r w w' ∧ Anew w r r' := by
  have w1 : IntKind.i64.wrap ((i : Int) - 1) = (i1 : Int) := by rw [IntKind.wrap_i64]; omega
  have w2 : IntKind.i64.wrap ((i : Int) - 2) = (i2 : Int) := by rw [IntKind.wrap_i64]; omega
  have hi1 : (0 : Int) ≤ (i1 : Int) ∧ (i1 : Int) < (len : Int) := by omega
  have hi2 : (0 : Int) ≤ (i2 : Int) ∧ (i2 : Int) < (len : Int) := by omega
  have gi : ((i : Int) == 1) = false := by simp; omega
  have gd : (d == 0) = false := by simp [h0]
  have bl0 : decide ((-63) ≤ d) = true := decide_eq_true hb.1
  have bm0 : decide (d ≤ 64) = true := decide_eq_true hb.2
  obtain ⟨m, hm⟩ : ∃ m : Nat, (d + 63).toNat = m := ⟨_, rfl⟩
  have hm1 : IntKind.u64.wrap (IntKind.i64.wrap (d + 63)) = (m : Int) := by rw [IntKind.wrap_u64, IntKind.wrap_i64]; omega
  have hm2 : m < 2 ^ 7 := by omega
  rw [hm]
  have HM2 := Lib.hid hm2
  clear hm2 hm hb h0
  have HBK := Lib.hid hk
  obtain ⟨hlt, g, s0, s1, s2, k00, k01, k02, k03, k04, k10, k11, k12, k13, k14, k20, k21, k22, k23, k24⟩ := hk
  have HX := Lib.hid h
  have HLB := Lib.hid (show n ≤ w.heap.size by have := h.lts.1; omega)
  have HR := Lib.hid hr
  have HLT := Lib.hid hlt
  clear h hr hlt h1 h2
  go_enter Tryz.func76, Tryz.ntmps76
  go_wp2
  go_quiet (fail)
  go_wp2_with fail
  go_quiet (fail)
  go_wp2_with fail
  refine wp_loop_rounds 4 ?_
  rw [rounds_succ]
  go_wp2_with fail
  generalize HW0 : World.drewN _ _ = w0 at *
  have hb0 : Below w.heap.size w w0 := by rw [← HW0]; exact drewN_b _ _
  have HS0 := Lib.hid (Nat.le_trans HLB.out hb0.size)
  have HK0 := Lib.hid (HBK.out.below (hb0.mono HLB.out))
  have HX0 := Lib.hid (HX.out.below hb0)
  have HG0 := Lib.hid (Gro.ofBelow (B := B) (r := r) hb0)
  clear hb0 HW0 HX HBK p0 p1 p2 g s0 s1 s2 k00 k01 k02 k03 k04 k10 k11 k12 k13 k14 k20 k21 k22 k23 k24
  have d0 := HK0.out.k00
  have d1 := HK0.out.k01
  go_region_held3 (fun w' => w'.cell? ⟨b0, o0, none⟩ = some (.int .i64 2) ∧ w'.cell? ⟨b0, o0 + 1, none⟩ = some (.int .i64 2)) (first | assumption | exact ⟨by assumption, by assumption⟩) (first | (go_at_call 75; refine (xbits_lit _ B r L _ _ 2 2 rfl rfl (HX0.out.below (drew_b _)) (by omega) (by decide) (by decide)).mono ?_; rintro e w4 ⟨rfl, r4, hx4, hg4, hn4⟩; have hk4 := (HK0.out.below ((drew_b w0).mono HS0.out)).below (hg4.below HS0.out hB HR.out); have e0 := hk4.k00; have e1 := hk4.k01; have HX4 := Lib.hid hx4; have HG4 := Lib.hid (HG0.out.trans ((Gro.ofBelow (drew_b w0)).trans hg4 (Anew.refl _ _)) (Anew.refl _ _)); have HN4 := Lib.hid (hn4.back HG0.out.size); have HK4 := Lib.hid hk4; clear hx4 hg4 hn4 hk4))
  go_wp2_with fail
  clear d0 d1
  have d2 := HK4.out.k02
  have d4 := HK4.out.k04
  go_region_held3 (fun w' => w'.cell? ⟨b0, o0 + 2, none⟩ = some (.int .i64 (-63)) ∧ w'.cell? ⟨b0, o0 + 4, none⟩ = some (.int .i64 7)) (first | assumption | exact ⟨by assumption, by assumption⟩) (first | (go_at_call 75; refine (xbits_lit _ B r4 _ _ _ m 7 rfl rfl (HX4.out.below (drew_b _)) (by simp [Bt.nb_len]; omega) (Nat.lt_of_lt_of_le HM2.out (by decide)) (by decide)).mono ?_; rintro e w5 ⟨rfl, r5, hx5, hg5, hn5⟩; have hr4 : ∀ k, r4 = some k → n ≤ k := (fun k hk => by rcases HN4.out k hk with h6 | h6; exact HR.out k h6; exact Nat.le_trans HLB.out h6); have hk5 := (HK4.out.below ((drew_b w4).mono (Nat.le_trans HLB.out HG4.out.size))).below (hg5.below (Nat.le_trans HLB.out HG4.out.size) hB hr4); have e2 := hk5.k02; have e4 := hk5.k04; have HX5 := Lib.hid hx5; have HG5 := Lib.hid (HG4.out.trans ((Gro.ofBelow (drew_b w4)).trans hg5 (Anew.refl _ _)) HN4.out); have HN5 := Lib.hid (HN4.out.trans (hn5.back (Nat.le_refl _)) HG4.out.size); clear hx5 hg5 hn5 hk5))
  go_wp2
  (try simp only [Exit.inBlock, Exit.then])
  refine bodyPost_ret (results_none rfl _ _ _) rfl ?_
  have e5 := HX5.out
  rw [List.append_assoc] at e5
  exact ⟨rfl, r5, e5, HG5.out, HN5.out⟩
set_option maxHeartbeats 2000000 in
set_option maxRecDepth 100000 in
theorem xtime_b2n {w : World} {n B : Nat} {r : Option Nat} {L : List Bool} {b o c b0 o0 c0 b1 o1 c1 b2 o2 c2 : Nat} (h : Xr w B r L) (hB : n ≤ B) (hr : ∀ k, r = some k → n ≤ k) (hk : BkAt n w b o c b0 o0 c0 b1 o1 c1 b2 o2 c2) (bs off len cap i i1 i2 : Nat) (t0 t1 t2 : Int)
    (hi : (0 : Int) ≤ (i : Int) ∧ (i : Int) < (len : Int)) (h1 : i = i1 + 1) (h2 : i = i2 + 2) (hl : len ≤ 1000000) (p2 : w.cell? ⟨bs, off + i * 2, none⟩ = some (.int .i64 t2)) (p1 : w.cell? ⟨bs, off + i1 * 2, none⟩ = some (.int .i64 t1)) (p0 : w.cell? ⟨bs, off + i2 * 2, none⟩ = some (.int .i64 t0))
    (stp st0 : Nat) (d : Int) (hst : IntKind.u64.wrap (IntKind.u64.wrap t2 - IntKind.u64.wrap t1) = (stp : Int)) (hst0 : IntKind.u64.wrap (IntKind.u64.wrap t1 - IntKind.u64.wrap t0) = (st0 : Int)) (hd : wrap64 (IntKind.u64.wrap ((stp : Int) - st0)) = d) (hL : L.length < 1000000) (h0 : d ≠ 0) (hb : (-255) ≤ d ∧ d ≤ 256) (hs : d < (-63)) :
    Calls Tryz.prog 76 #[.pointer (some ⟨B, 0, none⟩), .slice (some ⟨bs, off, none⟩) len cap, .int .i64 (i : Int)] w fun e w' => e = .returned (.tuple #[]) ∧ ∃ r', Xr w' B r' (L ++ (Bt.nb 6 3 ++ Bt.nb (d + 255).toNat 9)) ∧ Gro B r w w' ∧ Anew w r r' := by
  have w1 : IntKind.i64.wrap ((i : Int) - 1) = (i1 : Int) := by rw [IntKind.wrap_i64]; omega
  have w2 : IntKind.i64.wrap ((i : Int) - 2) = (i2 : Int) := by rw [IntKind.wrap_i64]; omega
  have hi1 : (0 : Int) ≤ (i1 : Int) ∧ (i1 : Int) < (len : Int) := by omega
  have hi2 : (0 : Int) ≤ (i2 : Int) ∧ (i2 : Int) < (len : Int) := by omega
  have gi : ((i : Int) == 1) = false := by simp; omega
  have gd : (d == 0) = false := by simp [h0]
  have bl0 : decide ((-63) ≤ d) = false := decide_eq_false (by omega)
  have bl1 : decide ((-255) ≤ d) = true := decide_eq_true hb.1
  have bm1 : decide (d ≤ 256) = true := decide_eq_true hb.2
  obtain ⟨m, hm⟩ : ∃ m : Nat, (d + 255).toNat = m := ⟨_, rfl⟩
  have hm1 : IntKind.u64.wrap (IntKind.i64.wrap (d + 255)) = (m : Int) := by rw [IntKind.wrap_u64, IntKind.wrap_i64]; omega
  have hm2 : m < 2 ^ 9 := by omega
  rw [hm]
  have HM2 := Lib.hid hm2
  clear hm2 hm hb h0 hs
  have HBK := Lib.hid hk
  obtain ⟨hlt, g, s0, s1, s2, k00, k01, k02, k03, k04, k10, k11, k12, k13, k14, k20, k21, k22, k23, k24⟩ := hk
  have HX := Lib.hid h
  have HLB := Lib.hid (show n ≤ w.heap.size by have := h.lts.1; omega)
  have HR := Lib.hid hr
  have HLT := Lib.hid hlt
  clear h hr hlt h1 h2
  go_enter Tryz.func76, Tryz.ntmps76
  go_wp2
  go_quiet (fail)
  go_wp2_with fail
  go_quiet (fail)
  go_wp2_with fail
  refine wp_loop_rounds 4 ?_
  rw [rounds_succ]
  go_wp2_with fail
  rw [rounds_succ]
  go_wp2_with fail
  generalize HW0 : World.drewN _ _ = w0 at *
  have hb0 : Below w.heap.size w w0 := by rw [← HW0]; exact drewN_b _ _
  have HS0 := Lib.hid (Nat.le_trans HLB.out hb0.size)
  have HK0 := Lib.hid (HBK.out.below (hb0.mono HLB.out))
  have HX0 := Lib.hid (HX.out.below hb0)
  have HG0 := Lib.hid (Gro.ofBelow (B := B) (r := r) hb0)
  clear hb0 HW0 HX HBK p0 p1 p2 g s0 s1 s2 k00 k01 k02 k03 k04 k10 k11 k12 k13 k14 k20 k21 k22 k23 k24
  have d0 := HK0.out.k10
  have d1 := HK0.out.k11
  go_region_held3 (fun w' => w'.cell? ⟨b1, o1, none⟩ = some (.int .i64 6) ∧ w'.cell? ⟨b1, o1 + 1, none⟩ = some (.int .i64 3)) (first | assumption | exact ⟨by assumption, by assumption⟩) (first | (go_at_call 75; refine (xbits_lit _ B r L _ _ 6 3 rfl rfl (HX0.out.below (drew_b _)) (by omega) (by decide) (by decide)).mono ?_; rintro e w4 ⟨rfl, r4, hx4, hg4, hn4⟩; have hk4 := (HK0.out.below ((drew_b w0).mono HS0.out)).below (hg4.below HS0.out hB HR.out); have e0 := hk4.k10; have e1 := hk4.k11; have HX4 := Lib.hid hx4; have HG4 := Lib.hid (HG0.out.trans ((Gro.ofBelow (drew_b w0)).trans hg4 (Anew.refl _ _)) (Anew.refl _ _)); have HN4 := Lib.hid (hn4.back HG0.out.size); have HK4 := Lib.hid hk4; clear hx4 hg4 hn4 hk4))
  go_wp2_with fail
  clear d0 d1
  have d2 := HK4.out.k12
  have d4 := HK4.out.k14
  go_region_held3 (fun w' => w'.cell? ⟨b1, o1 + 2, none⟩ = some (.int .i64 (-255)) ∧ w'.cell? ⟨b1, o1 + 4, none⟩ = some (.int .i64 9)) (first | assumption | exact ⟨by assumption, by assumption⟩) (first | (go_at_call 75; refine (xbits_lit _ B r4 _ _ _ m 9 rfl rfl (HX4.out.below (drew_b _)) (by simp [Bt.nb_len]; omega) (Nat.lt_of_lt_of_le HM2.out (by decide)) (by decide)).mono ?_; rintro e w5 ⟨rfl, r5, hx5, hg5, hn5⟩; have hr4 : ∀ k, r4 = some k → n ≤ k := (fun k hk => by rcases HN4.out k hk with h6 | h6; exact HR.out k h6; exact Nat.le_trans HLB.out h6); have hk5 := (HK4.out.below ((drew_b w4).mono (Nat.le_trans HLB.out HG4.out.size))).below (hg5.below (Nat.le_trans HLB.out HG4.out.size) hB hr4); have e2 := hk5.k12; have e4 := hk5.k14; have HX5 := Lib.hid hx5; have HG5 := Lib.hid (HG4.out.trans ((Gro.ofBelow (drew_b w4)).trans hg5 (Anew.refl _ _)) HN4.out); have HN5 := Lib.hid (HN4.out.trans (hn5.back (Nat.le_refl _)) HG4.out.size); clear hx5 hg5 hn5 hk5))
  go_wp2
  (try simp only [Exit.inBlock, Exit.then])
  refine bodyPost_ret (results_none rfl _ _ _) rfl ?_
  have e5 := HX5.out
  rw [List.append_assoc] at e5
  exact ⟨rfl, r5, e5, HG5.out, HN5.out⟩
set_option maxHeartbeats 2000000 in
set_option maxRecDepth 100000 in
theorem xtime_b2p {w : World} {n B : Nat} {r : Option Nat} {L : List Bool} {b o c b0 o0 c0 b1 o1 c1 b2 o2 c2 : Nat} (h : Xr w B r L) (hB : n ≤ B) (hr : ∀ k, r = some k → n ≤ k) (hk : BkAt n w b o c b0 o0 c0 b1 o1 c1 b2 o2 c2) (bs off len cap i i1 i2 : Nat) (t0 t1 t2 : Int)
    (hi : (0 : Int) ≤ (i : Int) ∧ (i : Int) < (len : Int)) (h1 : i = i1 + 1) (h2 : i = i2 + 2) (hl : len ≤ 1000000) (p2 : w.cell? ⟨bs, off + i * 2, none⟩ = some (.int .i64 t2)) (p1 : w.cell? ⟨bs, off + i1 * 2, none⟩ = some (.int .i64 t1)) (p0 : w.cell? ⟨bs, off + i2 * 2, none⟩ = some (.int .i64 t0))
    (stp st0 : Nat) (d : Int) (hst : IntKind.u64.wrap (IntKind.u64.wrap t2 - IntKind.u64.wrap t1) = (stp : Int)) (hst0 : IntKind.u64.wrap (IntKind.u64.wrap t1 - IntKind.u64.wrap t0) = (st0 : Int)) (hd : wrap64 (IntKind.u64.wrap ((stp : Int) - st0)) = d) (hL : L.length < 1000000) (h0 : d ≠ 0) (hb : (-255) ≤ d ∧ d ≤ 256) (hs : 64 < d) :
    Calls Tryz.prog 76 #[.pointer (some ⟨B, 0, none⟩), .slice (some ⟨bs, off, none⟩) len cap, .int .i64 (i : Int)] w fun e w' => e = .returned (.tuple #[]) ∧ ∃ r', Xr w' B r' (L ++ (Bt.nb 6 3 ++ Bt.nb (d + 255).toNat 9)) ∧ Gro B r w w' ∧ Anew w r r' := by
  have w1 : IntKind.i64.wrap ((i : Int) - 1) = (i1 : Int) := by rw [IntKind.wrap_i64]; omega
  have w2 : IntKind.i64.wrap ((i : Int) - 2) = (i2 : Int) := by rw [IntKind.wrap_i64]; omega
  have hi1 : (0 : Int) ≤ (i1 : Int) ∧ (i1 : Int) < (len : Int) := by omega
  have hi2 : (0 : Int) ≤ (i2 : Int) ∧ (i2 : Int) < (len : Int) := by omega
  have gi : ((i : Int) == 1) = false := by simp; omega
  have gd : (d == 0) = false := by simp [h0]
  have bl0 : decide ((-63) ≤ d) = true := decide_eq_true (by omega)
  have bm0 : decide (d ≤ 64) = false := decide_eq_false (by omega)
  have bl1 : decide ((-255) ≤ d) = true := decide_eq_true hb.1
  have bm1 : decide (d ≤ 256) = true := decide_eq_true hb.2
  obtain ⟨m, hm⟩ : ∃ m : Nat, (d + 255).toNat = m := ⟨_, rfl⟩
  have hm1 : IntKind.u64.wrap (IntKind.i64.wrap (d + 255)) = (m : Int) := by rw [IntKind.wrap_u64, IntKind.wrap_i64]; omega
  have hm2 : m < 2 ^ 9 := by omega
  rw [hm]
  have HM2 := Lib.hid hm2
  clear hm2 hm hb h0 hs
  have HBK := Lib.hid hk
  obtain ⟨hlt, g, s0, s1, s2, k00, k01, k02, k03, k04, k10, k11, k12, k13, k14, k20, k21, k22, k23, k24⟩ := hk
  have HX := Lib.hid h
  have HLB := Lib.hid (show n ≤ w.heap.size by have := h.lts.1; omega)
  have HR := Lib.hid hr
  have HLT := Lib.hid hlt
  clear h hr hlt h1 h2
  go_enter Tryz.func76, Tryz.ntmps76
  go_wp2
  go_quiet (fail)
  go_wp2_with fail
  go_quiet (fail)
  go_wp2_with fail
  refine wp_loop_rounds 4 ?_
  rw [rounds_succ]
  go_wp2_with fail
  rw [rounds_succ]
  go_wp2_with fail
  generalize HW0 : World.drewN _ _ = w0 at *
  have hb0 : Below w.heap.size w w0 := by rw [← HW0]; exact drewN_b _ _
  have HS0 := Lib.hid (Nat.le_trans HLB.out hb0.size)
  have HK0 := Lib.hid (HBK.out.below (hb0.mono HLB.out))
  have HX0 := Lib.hid (HX.out.below hb0)
  have HG0 := Lib.hid (Gro.ofBelow (B := B) (r := r) hb0)
  clear hb0 HW0 HX HBK p0 p1 p2 g s0 s1 s2 k00 k01 k02 k03 k04 k10 k11 k12 k13 k14 k20 k21 k22 k23 k24
  have d0 := HK0.out.k10
  have d1 := HK0.out.k11
  go_region_held3 (fun w' => w'.cell? ⟨b1, o1, none⟩ = some (.int .i64 6) ∧ w'.cell? ⟨b1, o1 + 1, none⟩ = some (.int .i64 3)) (first | assumption | exact ⟨by assumption, by assumption⟩) (first | (go_at_call 75; refine (xbits_lit _ B r L _ _ 6 3 rfl rfl (HX0.out.below (drew_b _)) (by omega) (by decide) (by decide)).mono ?_; rintro e w4 ⟨rfl, r4, hx4, hg4, hn4⟩; have hk4 := (HK0.out.below ((drew_b w0).mono HS0.out)).below (hg4.below HS0.out hB HR.out); have e0 := hk4.k10; have e1 := hk4.k11; have HX4 := Lib.hid hx4; have HG4 := Lib.hid (HG0.out.trans ((Gro.ofBelow (drew_b w0)).trans hg4 (Anew.refl _ _)) (Anew.refl _ _)); have HN4 := Lib.hid (hn4.back HG0.out.size); have HK4 := Lib.hid hk4; clear hx4 hg4 hn4 hk4))
  go_wp2_with fail
  clear d0 d1
  have d2 := HK4.out.k12
  have d4 := HK4.out.k14
  go_region_held3 (fun w' => w'.cell? ⟨b1, o1 + 2, none⟩ = some (.int .i64 (-255)) ∧ w'.cell? ⟨b1, o1 + 4, none⟩ = some (.int .i64 9)) (first | assumption | exact ⟨by assumption, by assumption⟩) (first | (go_at_call 75; refine (xbits_lit _ B r4 _ _ _ m 9 rfl rfl (HX4.out.below (drew_b _)) (by simp [Bt.nb_len]; omega) (Nat.lt_of_lt_of_le HM2.out (by decide)) (by decide)).mono ?_; rintro e w5 ⟨rfl, r5, hx5, hg5, hn5⟩; have hr4 : ∀ k, r4 = some k → n ≤ k := (fun k hk => by rcases HN4.out k hk with h6 | h6; exact HR.out k h6; exact Nat.le_trans HLB.out h6); have hk5 := (HK4.out.below ((drew_b w4).mono (Nat.le_trans HLB.out HG4.out.size))).below (hg5.below (Nat.le_trans HLB.out HG4.out.size) hB hr4); have e2 := hk5.k12; have e4 := hk5.k14; have HX5 := Lib.hid hx5; have HG5 := Lib.hid (HG4.out.trans ((Gro.ofBelow (drew_b w4)).trans hg5 (Anew.refl _ _)) HN4.out); have HN5 := Lib.hid (HN4.out.trans (hn5.back (Nat.le_refl _)) HG4.out.size); clear hx5 hg5 hn5 hk5))
  go_wp2
  (try simp only [Exit.inBlock, Exit.then])
  refine bodyPost_ret (results_none rfl _ _ _) rfl ?_
  have e5 := HX5.out
  rw [List.append_assoc] at e5
  exact ⟨rfl, r5, e5, HG5.out, HN5.out⟩
set_option maxHeartbeats 2000000 in
set_option maxRecDepth 100000 in
theorem xtime_b3n {w : World} {n B : Nat} {r : Option Nat} {L : List Bool} {b o c b0 o0 c0 b1 o1 c1 b2 o2 c2 : Nat} (h : Xr w B r L) (hB : n ≤ B) (hr : ∀ k, r = some k → n ≤ k) (hk : BkAt n w b o c b0 o0 c0 b1 o1 c1 b2 o2 c2) (bs off len cap i i1 i2 : Nat) (t0 t1 t2 : Int)
    (hi : (0 : Int) ≤ (i : Int) ∧ (i : Int) < (len : Int)) (h1 : i = i1 + 1) (h2 : i = i2 + 2) (hl : len ≤ 1000000) (p2 : w.cell? ⟨bs, off + i * 2, none⟩ = some (.int .i64 t2)) (p1 : w.cell? ⟨bs, off + i1 * 2, none⟩ = some (.int .i64 t1)) (p0 : w.cell? ⟨bs, off + i2 * 2, none⟩ = some (.int .i64 t0))
    (stp st0 : Nat) (d : Int) (hst : IntKind.u64.wrap (IntKind.u64.wrap t2 - IntKind.u64.wrap t1) = (stp : Int)) (hst0 : IntKind.u64.wrap (IntKind.u64.wrap t1 - IntKind.u64.wrap t0) = (st0 : Int)) (hd : wrap64 (IntKind.u64.wrap ((stp : Int) - st0)) = d) (hL : L.length < 1000000) (h0 : d ≠ 0) (hb : (-2047) ≤ d ∧ d ≤ 2048) (hs : d < (-255)) :
    Calls Tryz.prog 76 #[.pointer (some ⟨B, 0, none⟩), .slice (some ⟨bs, off, none⟩) len cap, .int .i64 (i : Int)] w fun e w' => e = .returned (.tuple #[]) ∧ ∃ r', Xr w' B r' (L ++ (Bt.nb 14 4 ++ Bt.nb (d + 2047).toNat 12)) ∧ Gro B r w w' ∧ Anew w r r' := by
  have w1 : IntKind.i64.wrap ((i : Int) - 1) = (i1 : Int) := by rw [IntKind.wrap_i64]; omega
  have w2 : IntKind.i64.wrap ((i : Int) - 2) = (i2 : Int) := by rw [IntKind.wrap_i64]; omega
  have hi1 : (0 : Int) ≤ (i1 : Int) ∧ (i1 : Int) < (len : Int) := by omega
  have hi2 : (0 : Int) ≤ (i2 : Int) ∧ (i2 : Int) < (len : Int) := by omega
  have gi : ((i : Int) == 1) = false := by simp; omega
  have gd : (d == 0) = false := by simp [h0]
  have bl0 : decide ((-63) ≤ d) = false := decide_eq_false (by omega)
  have bl1 : decide ((-255) ≤ d) = false := decide_eq_false (by omega)
  have bl2 : decide ((-2047) ≤ d) = true := decide_eq_true hb.1
  have bm2 : decide (d ≤ 2048) = true := decide_eq_true hb.2
  obtain ⟨m, hm⟩ : ∃ m : Nat, (d + 2047).toNat = m := ⟨_, rfl⟩
  have hm1 : IntKind.u64.wrap (IntKind.i64.wrap (d + 2047)) = (m : Int) := by rw [IntKind.wrap_u64, IntKind.wrap_i64]; omega
  have hm2 : m < 2 ^ 12 := by omega
  rw [hm]
  have HM2 := Lib.hid hm2
  clear hm2 hm hb h0 hs
  have HBK := Lib.hid hk
  obtain ⟨hlt, g, s0, s1, s2, k00, k01, k02, k03, k04, k10, k11, k12, k13, k14, k20, k21, k22, k23, k24⟩ := hk
  have HX := Lib.hid h
  have HLB := Lib.hid (show n ≤ w.heap.size by have := h.lts.1; omega)
  have HR := Lib.hid hr
  have HLT := Lib.hid hlt
  clear h hr hlt h1 h2
  go_enter Tryz.func76, Tryz.ntmps76
  go_wp2
  go_quiet (fail)
  go_wp2_with fail
  go_quiet (fail)
  go_wp2_with fail
  refine wp_loop_rounds 4 ?_
  rw [rounds_succ]
  go_wp2_with fail
  rw [rounds_succ]
  go_wp2_with fail
  rw [rounds_succ]
  go_wp2_with fail
  generalize HW0 : World.drewN _ _ = w0 at *
  have hb0 : Below w.heap.size w w0 := by rw [← HW0]; exact drewN_b _ _
  have HS0 := Lib.hid (Nat.le_trans HLB.out hb0.size)
  have HK0 := Lib.hid (HBK.out.below (hb0.mono HLB.out))
  have HX0 := Lib.hid (HX.out.below hb0)
  have HG0 := Lib.hid (Gro.ofBelow (B := B) (r := r) hb0)
  clear hb0 HW0 HX HBK p0 p1 p2 g s0 s1 s2 k00 k01 k02 k03 k04 k10 k11 k12 k13 k14 k20 k21 k22 k23 k24
  have d0 := HK0.out.k20
  have d1 := HK0.out.k21
  go_region_held3 (fun w' => w'.cell? ⟨b2, o2, none⟩ = some (.int .i64 14) ∧ w'.cell? ⟨b2, o2 + 1, none⟩ = some (.int .i64 4)) (first | assumption | exact ⟨by assumption, by assumption⟩) (first | (go_at_call 75; refine (xbits_lit _ B r L _ _ 14 4 rfl rfl (HX0.out.below (drew_b _)) (by omega) (by decide) (by decide)).mono ?_; rintro e w4 ⟨rfl, r4, hx4, hg4, hn4⟩; have hk4 := (HK0.out.below ((drew_b w0).mono HS0.out)).below (hg4.below HS0.out hB HR.out); have e0 := hk4.k20; have e1 := hk4.k21; have HX4 := Lib.hid hx4; have HG4 := Lib.hid (HG0.out.trans ((Gro.ofBelow (drew_b w0)).trans hg4 (Anew.refl _ _)) (Anew.refl _ _)); have HN4 := Lib.hid (hn4.back HG0.out.size); have HK4 := Lib.hid hk4; clear hx4 hg4 hn4 hk4))
  go_wp2_with fail
  clear d0 d1
  have d2 := HK4.out.k22
  have d4 := HK4.out.k24
  go_region_held3 (fun w' => w'.cell? ⟨b2, o2 + 2, none⟩ = some (.int .i64 (-2047)) ∧ w'.cell? ⟨b2, o2 + 4, none⟩ = some (.int .i64 12)) (first | assumption | exact ⟨by assumption, by assumption⟩) (first | (go_at_call 75; refine (xbits_lit _ B r4 _ _ _ m 12 rfl rfl (HX4.out.below (drew_b _)) (by simp [Bt.nb_len]; omega) (Nat.lt_of_lt_of_le HM2.out (by decide)) (by decide)).mono ?_; rintro e w5 ⟨rfl, r5, hx5, hg5, hn5⟩; have hr4 : ∀ k, r4 = some k → n ≤ k := (fun k hk => by rcases HN4.out k hk with h6 | h6; exact HR.out k h6; exact Nat.le_trans HLB.out h6); have hk5 := (HK4.out.below ((drew_b w4).mono (Nat.le_trans HLB.out HG4.out.size))).below (hg5.below (Nat.le_trans HLB.out HG4.out.size) hB hr4); have e2 := hk5.k22; have e4 := hk5.k24; have HX5 := Lib.hid hx5; have HG5 := Lib.hid (HG4.out.trans ((Gro.ofBelow (drew_b w4)).trans hg5 (Anew.refl _ _)) HN4.out); have HN5 := Lib.hid (HN4.out.trans (hn5.back (Nat.le_refl _)) HG4.out.size); clear hx5 hg5 hn5 hk5))
  go_wp2
  (try simp only [Exit.inBlock, Exit.then])
  refine bodyPost_ret (results_none rfl _ _ _) rfl ?_
  have e5 := HX5.out
  rw [List.append_assoc] at e5
  exact ⟨rfl, r5, e5, HG5.out, HN5.out⟩
set_option maxHeartbeats 2000000 in
set_option maxRecDepth 100000 in
theorem xtime_b3p {w : World} {n B : Nat} {r : Option Nat} {L : List Bool} {b o c b0 o0 c0 b1 o1 c1 b2 o2 c2 : Nat} (h : Xr w B r L) (hB : n ≤ B) (hr : ∀ k, r = some k → n ≤ k) (hk : BkAt n w b o c b0 o0 c0 b1 o1 c1 b2 o2 c2) (bs off len cap i i1 i2 : Nat) (t0 t1 t2 : Int)
    (hi : (0 : Int) ≤ (i : Int) ∧ (i : Int) < (len : Int)) (h1 : i = i1 + 1) (h2 : i = i2 + 2) (hl : len ≤ 1000000) (p2 : w.cell? ⟨bs, off + i * 2, none⟩ = some (.int .i64 t2)) (p1 : w.cell? ⟨bs, off + i1 * 2, none⟩ = some (.int .i64 t1)) (p0 : w.cell? ⟨bs, off + i2 * 2, none⟩ = some (.int .i64 t0))
    (stp st0 : Nat) (d : Int) (hst : IntKind.u64.wrap (IntKind.u64.wrap t2 - IntKind.u64.wrap t1) = (stp : Int)) (hst0 : IntKind.u64.wrap (IntKind.u64.wrap t1 - IntKind.u64.wrap t0) = (st0 : Int)) (hd : wrap64 (IntKind.u64.wrap ((stp : Int) - st0)) = d) (hL : L.length < 1000000) (h0 : d ≠ 0) (hb : (-2047) ≤ d ∧ d ≤ 2048) (hs : 256 < d) :
    Calls Tryz.prog 76 #[.pointer (some ⟨B, 0, none⟩), .slice (some ⟨bs, off, none⟩) len cap, .int .i64 (i : Int)] w fun e w' => e = .returned (.tuple #[]) ∧ ∃ r', Xr w' B r' (L ++ (Bt.nb 14 4 ++ Bt.nb (d + 2047).toNat 12)) ∧ Gro B r w w' ∧ Anew w r r' := by
  have w1 : IntKind.i64.wrap ((i : Int) - 1) = (i1 : Int) := by rw [IntKind.wrap_i64]; omega
  have w2 : IntKind.i64.wrap ((i : Int) - 2) = (i2 : Int) := by rw [IntKind.wrap_i64]; omega
  have hi1 : (0 : Int) ≤ (i1 : Int) ∧ (i1 : Int) < (len : Int) := by omega
  have hi2 : (0 : Int) ≤ (i2 : Int) ∧ (i2 : Int) < (len : Int) := by omega
  have gi : ((i : Int) == 1) = false := by simp; omega
  have gd : (d == 0) = false := by simp [h0]
  have bl0 : decide ((-63) ≤ d) = true := decide_eq_true (by omega)
  have bm0 : decide (d ≤ 64) = false := decide_eq_false (by omega)
  have bl1 : decide ((-255) ≤ d) = true := decide_eq_true (by omega)
  have bm1 : decide (d ≤ 256) = false := decide_eq_false (by omega)
  have bl2 : decide ((-2047) ≤ d) = true := decide_eq_true hb.1
  have bm2 : decide (d ≤ 2048) = true := decide_eq_true hb.2
  obtain ⟨m, hm⟩ : ∃ m : Nat, (d + 2047).toNat = m := ⟨_, rfl⟩
  have hm1 : IntKind.u64.wrap (IntKind.i64.wrap (d + 2047)) = (m : Int) := by rw [IntKind.wrap_u64, IntKind.wrap_i64]; omega
  have hm2 : m < 2 ^ 12 := by omega
  rw [hm]
  have HM2 := Lib.hid hm2
  clear hm2 hm hb h0 hs
  have HBK := Lib.hid hk
  obtain ⟨hlt, g, s0, s1, s2, k00, k01, k02, k03, k04, k10, k11, k12, k13, k14, k20, k21, k22, k23, k24⟩ := hk
  have HX := Lib.hid h
  have HLB := Lib.hid (show n ≤ w.heap.size by have := h.lts.1; omega)
  have HR := Lib.hid hr
  have HLT := Lib.hid hlt
  clear h hr hlt h1 h2
  go_enter Tryz.func76, Tryz.ntmps76
  go_wp2
  go_quiet (fail)
  go_wp2_with fail
  go_quiet (fail)
  go_wp2_with fail
  refine wp_loop_rounds 4 ?_
  rw [rounds_succ]
  go_wp2_with fail
  rw [rounds_succ]
  go_wp2_with fail
  rw [rounds_succ]
  go_wp2_with fail
  generalize HW0 : World.drewN _ _ = w0 at *
  have hb0 : Below w.heap.size w w0 := by rw [← HW0]; exact drewN_b _ _
  have HS0 := Lib.hid (Nat.le_trans HLB.out hb0.size)
  have HK0 := Lib.hid (HBK.out.below (hb0.mono HLB.out))
  have HX0 := Lib.hid (HX.out.below hb0)
  have HG0 := Lib.hid (Gro.ofBelow (B := B) (r := r) hb0)
  clear hb0 HW0 HX HBK p0 p1 p2 g s0 s1 s2 k00 k01 k02 k03 k04 k10 k11 k12 k13 k14 k20 k21 k22 k23 k24
  have d0 := HK0.out.k20
  have d1 := HK0.out.k21
  go_region_held3 (fun w' => w'.cell? ⟨b2, o2, none⟩ = some (.int .i64 14) ∧ w'.cell? ⟨b2, o2 + 1, none⟩ = some (.int .i64 4)) (first | assumption | exact ⟨by assumption, by assumption⟩) (first | (go_at_call 75; refine (xbits_lit _ B r L _ _ 14 4 rfl rfl (HX0.out.below (drew_b _)) (by omega) (by decide) (by decide)).mono ?_; rintro e w4 ⟨rfl, r4, hx4, hg4, hn4⟩; have hk4 := (HK0.out.below ((drew_b w0).mono HS0.out)).below (hg4.below HS0.out hB HR.out); have e0 := hk4.k20; have e1 := hk4.k21; have HX4 := Lib.hid hx4; have HG4 := Lib.hid (HG0.out.trans ((Gro.ofBelow (drew_b w0)).trans hg4 (Anew.refl _ _)) (Anew.refl _ _)); have HN4 := Lib.hid (hn4.back HG0.out.size); have HK4 := Lib.hid hk4; clear hx4 hg4 hn4 hk4))
  go_wp2_with fail
  clear d0 d1
  have d2 := HK4.out.k22
  have d4 := HK4.out.k24
  go_region_held3 (fun w' => w'.cell? ⟨b2, o2 + 2, none⟩ = some (.int .i64 (-2047)) ∧ w'.cell? ⟨b2, o2 + 4, none⟩ = some (.int .i64 12)) (first | assumption | exact ⟨by assumption, by assumption⟩) (first | (go_at_call 75; refine (xbits_lit _ B r4 _ _ _ m 12 rfl rfl (HX4.out.below (drew_b _)) (by simp [Bt.nb_len]; omega) (Nat.lt_of_lt_of_le HM2.out (by decide)) (by decide)).mono ?_; rintro e w5 ⟨rfl, r5, hx5, hg5, hn5⟩; have hr4 : ∀ k, r4 = some k → n ≤ k := (fun k hk => by rcases HN4.out k hk with h6 | h6; exact HR.out k h6; exact Nat.le_trans HLB.out h6); have hk5 := (HK4.out.below ((drew_b w4).mono (Nat.le_trans HLB.out HG4.out.size))).below (hg5.below (Nat.le_trans HLB.out HG4.out.size) hB hr4); have e2 := hk5.k22; have e4 := hk5.k24; have HX5 := Lib.hid hx5; have HG5 := Lib.hid (HG4.out.trans ((Gro.ofBelow (drew_b w4)).trans hg5 (Anew.refl _ _)) HN4.out); have HN5 := Lib.hid (HN4.out.trans (hn5.back (Nat.le_refl _)) HG4.out.size); clear hx5 hg5 hn5 hk5))
  go_wp2
  (try simp only [Exit.inBlock, Exit.then])
  refine bodyPost_ret (results_none rfl _ _ _) rfl ?_
  have e5 := HX5.out
  rw [List.append_assoc] at e5
  exact ⟨rfl, r5, e5, HG5.out, HN5.out⟩
set_option maxHeartbeats 2000000 in
set_option maxRecDepth 100000 in
theorem xtime_b4n {w : World} {n B : Nat} {r : Option Nat} {L : List Bool} {b o c b0 o0 c0 b1 o1 c1 b2 o2 c2 : Nat} (h : Xr w B r L) (hB : n ≤ B) (hr : ∀ k, r = some k → n ≤ k) (hk : BkAt n w b o c b0 o0 c0 b1 o1 c1 b2 o2 c2) (bs off len cap i i1 i2 : Nat) (t0 t1 t2 : Int)
    (hi : (0 : Int) ≤ (i : Int) ∧ (i : Int) < (len : Int)) (h1 : i = i1 + 1) (h2 : i = i2 + 2) (hl : len ≤ 1000000) (p2 : w.cell? ⟨bs, off + i * 2, none⟩ = some (.int .i64 t2)) (p1 : w.cell? ⟨bs, off + i1 * 2, none⟩ = some (.int .i64 t1)) (p0 : w.cell? ⟨bs, off + i2 * 2, none⟩ = some (.int .i64 t0))
    (stp st0 : Nat) (d : Int) (hst : IntKind.u64.wrap (IntKind.u64.wrap t2 - IntKind.u64.wrap t1) = (stp : Int)) (hst0 : IntKind.u64.wrap (IntKind.u64.wrap t1 - IntKind.u64.wrap t0) = (st0 : Int)) (hd : wrap64 (IntKind.u64.wrap ((stp : Int) - st0)) = d) (hL : L.length < 1000000) (h0 : d ≠ 0) (hb : -9223372036854775808 ≤ d ∧ d ≤ 9223372036854775807) (hs : d < (-2047)) :
    Calls Tryz.prog 76 #[.pointer (some ⟨B, 0, none⟩), .slice (some ⟨bs, off, none⟩) len cap, .int .i64 (i : Int)] w fun e w' => e = .returned (.tuple #[]) ∧ ∃ r', Xr w' B r' (L ++ (Bt.nb 15 4 ++ Bt.nb (IntKind.u64.wrap d).toNat 64)) ∧ Gro B r w w' ∧ Anew w r r' := by
  have w1 : IntKind.i64.wrap ((i : Int) - 1) = (i1 : Int) := by rw [IntKind.wrap_i64]; omega
  have w2 : IntKind.i64.wrap ((i : Int) - 2) = (i2 : Int) := by rw [IntKind.wrap_i64]; omega
  have hi1 : (0 : Int) ≤ (i1 : Int) ∧ (i1 : Int) < (len : Int) := by omega
  have hi2 : (0 : Int) ≤ (i2 : Int) ∧ (i2 : Int) < (len : Int) := by omega
  have gi : ((i : Int) == 1) = false := by simp; omega
  have gd : (d == 0) = false := by simp [h0]
  have bl0 : decide ((-63) ≤ d) = false := decide_eq_false (by omega)
  have bl1 : decide ((-255) ≤ d) = false := decide_eq_false (by omega)
  have bl2 : decide ((-2047) ≤ d) = false := decide_eq_false (by omega)
  obtain ⟨m, hm⟩ : ∃ m : Nat, (IntKind.u64.wrap d).toNat = m := ⟨_, rfl⟩
  have hm1 : IntKind.u64.wrap d = (m : Int) := by rw [IntKind.wrap_u64] at hm ⊢; omega
  have hm2 : m < 18446744073709551616 := by rw [IntKind.wrap_u64] at hm1; omega
  rw [hm]
  have HM2 := Lib.hid hm2
  clear hm2 hm hb h0 hs
  have HBK := Lib.hid hk
  obtain ⟨hlt, g, s0, s1, s2, k00, k01, k02, k03, k04, k10, k11, k12, k13, k14, k20, k21, k22, k23, k24⟩ := hk
  have HX := Lib.hid h
  have HLB := Lib.hid (show n ≤ w.heap.size by have := h.lts.1; omega)
  have HR := Lib.hid hr
  have HLT := Lib.hid hlt
  clear h hr hlt h1 h2
  go_enter Tryz.func76, Tryz.ntmps76
  go_wp2
  go_quiet (fail)
  go_wp2_with fail
  go_quiet (fail)
  go_wp2_with fail
  refine wp_loop_rounds 4 ?_
  rw [rounds_succ]
  go_wp2_with fail
  rw [rounds_succ]
  go_wp2_with fail
  rw [rounds_succ]
  go_wp2_with fail
  rw [rounds_succ]
  go_wp2_with fail
  generalize HW0 : World.drewN _ _ = w0 at *
  have hb0 : Below w.heap.size w w0 := by rw [← HW0]; exact drewN_b _ _
  have HS0 := Lib.hid (Nat.le_trans HLB.out hb0.size)
  have HK0 := Lib.hid (HBK.out.below (hb0.mono HLB.out))
  have HX0 := Lib.hid (HX.out.below hb0)
  have HG0 := Lib.hid (Gro.ofBelow (B := B) (r := r) hb0)
  clear hb0 HW0 HX HBK p0 p1 p2 g s0 s1 s2 k00 k01 k02 k03 k04 k10 k11 k12 k13 k14 k20 k21 k22 k23 k24
  refine (xbits_lit _ B r L _ _ 15 4 rfl rfl HX0.out (by omega) (by decide) (by decide)).mono ?_
  rintro e w4 ⟨rfl, r4, hx4, hg4, hn4⟩
  have HX4 := Lib.hid hx4
  have HG4 := Lib.hid (HG0.out.trans hg4 (Anew.refl _ _))
  have HN4 := Lib.hid (hn4.back HG0.out.size)
  clear hx4 hg4 hn4
  go_wp2_with fail
  refine (xbits_lit _ B r4 _ _ _ m 64 rfl rfl HX4.out (by simp [Bt.nb_len]; omega) HM2.out (by decide)).mono ?_
  rintro e w5 ⟨rfl, r5, hx5, hg5, hn5⟩
  have HX5 := Lib.hid hx5
  have HG5 := Lib.hid (HG4.out.trans hg5 HN4.out)
  have HN5 := Lib.hid (HN4.out.trans hn5 HG4.out.size)
  clear hx5 hg5 hn5
  go_wp2_with fail
  go_end0
  have e5 := HX5.out
  rw [List.append_assoc] at e5
  exact ⟨rfl, r5, e5, HG5.out, HN5.out⟩
set_option maxHeartbeats 2000000 in
set_option maxRecDepth 100000 in
theorem xtime_b4p {w : World} {n B : Nat} {r : Option Nat} {L : List Bool} {b o c b0 o0 c0 b1 o1 c1 b2 o2 c2 : Nat} (h : Xr w B r L) (hB : n ≤ B) (hr : ∀ k, r = some k → n ≤ k) (hk : BkAt n w b o c b0 o0 c0 b1 o1 c1 b2 o2 c2) (bs off len cap i i1 i2 : Nat) (t0 t1 t2 : Int)
    (hi : (0 : Int) ≤ (i : Int) ∧ (i : Int) < (len : Int)) (h1 : i = i1 + 1) (h2 : i = i2 + 2) (hl : len ≤ 1000000) (p2 : w.cell? ⟨bs, off + i * 2, none⟩ = some (.int .i64 t2)) (p1 : w.cell? ⟨bs, off + i1 * 2, none⟩ = some (.int .i64 t1)) (p0 : w.cell? ⟨bs, off + i2 * 2, none⟩ = some (.int .i64 t0))
    (stp st0 : Nat) (d : Int) (hst : IntKind.u64.wrap (IntKind.u64.wrap t2 - IntKind.u64.wrap t1) = (stp : Int)) (hst0 : IntKind.u64.wrap (IntKind.u64.wrap t1 - IntKind.u64.wrap t0) = (st0 : Int)) (hd : wrap64 (IntKind.u64.wrap ((stp : Int) - st0)) = d) (hL : L.length < 1000000) (h0 : d ≠ 0) (hb : -9223372036854775808 ≤ d ∧ d ≤ 9223372036854775807) (hs : 2048 < d) :
    Calls Tryz.prog 76 #[.pointer (some ⟨B, 0, none⟩), .slice (some ⟨bs, off, none⟩) len cap, .int .i64 (i : Int)] w fun e w' => e = .returned (.tuple #[]) ∧ ∃ r', Xr w' B r' (L ++ (Bt.nb 15 4 ++ Bt.nb (IntKind.u64.wrap d).toNat 64)) ∧ Gro B r w w' ∧ Anew w r r' := by
  have w1 : IntKind.i64.wrap ((i : Int) - 1) = (i1 : Int) := by rw [IntKind.wrap_i64]; omega
  have w2 : IntKind.i64.wrap ((i : Int) - 2) = (i2 : Int) := by rw [IntKind.wrap_i64]; omega
  have hi1 : (0 : Int) ≤ (i1 : Int) ∧ (i1 : Int) < (len : Int) := by omega
  have hi2 : (0 : Int) ≤ (i2 : Int) ∧ (i2 : Int) < (len : Int) := by omega
  have gi : ((i : Int) == 1) = false := by simp; omega
  have gd : (d == 0) = false := by simp [h0]
  have bl0 : decide ((-63) ≤ d) = true := decide_eq_true (by omega)
  have bm0 : decide (d ≤ 64) = false := decide_eq_false (by omega)
  have bl1 : decide ((-255) ≤ d) = true := decide_eq_true (by omega)
  have bm1 : decide (d ≤ 256) = false := decide_eq_false (by omega)
  have bl2 : decide ((-2047) ≤ d) = true := decide_eq_true (by omega)
  have bm2 : decide (d ≤ 2048) = false := decide_eq_false (by omega)
  obtain ⟨m, hm⟩ : ∃ m : Nat, (IntKind.u64.wrap d).toNat = m := ⟨_, rfl⟩
  have hm1 : IntKind.u64.wrap d = (m : Int) := by rw [IntKind.wrap_u64] at hm ⊢; omega
  have hm2 : m < 18446744073709551616 := by rw [IntKind.wrap_u64] at hm1; omega
  rw [hm]
  have HM2 := Lib.hid hm2
  clear hm2 hm hb h0 hs
  have HBK := Lib.hid hk
  obtain ⟨hlt, g, s0, s1, s2, k00, k01, k02, k03, k04, k10, k11, k12, k13, k14, k20, k21, k22, k23, k24⟩ := hk
  have HX := Lib.hid h
  have HLB := Lib.hid (show n ≤ w.heap.size by have := h.lts.1; omega)
  have HR := Lib.hid hr
  have HLT := Lib.hid hlt
  clear h hr hlt h1 h2
  go_enter Tryz.func76, Tryz.ntmps76
  go_wp2
  go_quiet (fail)
  go_wp2_with fail
  go_quiet (fail)
  go_wp2_with fail
  refine wp_loop_rounds 4 ?_
  rw [rounds_succ]
  go_wp2_with fail
  rw [rounds_succ]
  go_wp2_with fail
  rw [rounds_succ]
  go_wp2_with fail
  rw [rounds_succ]
  go_wp2_with fail
  generalize HW0 : World.drewN _ _ = w0 at *
  have hb0 : Below w.heap.size w w0 := by rw [← HW0]; exact drewN_b _ _
  have HS0 := Lib.hid (Nat.le_trans HLB.out hb0.size)
  have HK0 := Lib.hid (HBK.out.below (hb0.mono HLB.out))
  have HX0 := Lib.hid (HX.out.below hb0)
  have HG0 := Lib.hid (Gro.ofBelow (B := B) (r := r) hb0)
  clear hb0 HW0 HX HBK p0 p1 p2 g s0 s1 s2 k00 k01 k02 k03 k04 k10 k11 k12 k13 k14 k20 k21 k22 k23 k24
  refine (xbits_lit _ B r L _ _ 15 4 rfl rfl HX0.out (by omega) (by decide) (by decide)).mono ?_
  rintro e w4 ⟨rfl, r4, hx4, hg4, hn4⟩
  have HX4 := Lib.hid hx4
  have HG4 := Lib.hid (HG0.out.trans hg4 (Anew.refl _ _))
  have HN4 := Lib.hid (hn4.back HG0.out.size)
  clear hx4 hg4 hn4
  go_wp2_with fail
  refine (xbits_lit _ B r4 _ _ _ m 64 rfl rfl HX4.out (by simp [Bt.nb_len]; omega) HM2.out (by decide)).mono ?_
  rintro e w5 ⟨rfl, r5, hx5, hg5, hn5⟩
  have HX5 := Lib.hid hx5
  have HG5 := Lib.hid (HG4.out.trans hg5 HN4.out)
  have HN5 := Lib.hid (HN4.out.trans hn5 HG4.out.size)
  clear hx5 hg5 hn5
  go_wp2_with fail
  go_end0
  have e5 := HX5.out
  rw [List.append_assoc] at e5
  exact ⟨rfl, r5, e5, HG5.out, HN5.out⟩
set_option maxRecDepth 100000 in
/-- The second sample's time. -/
theorem xtime_one {w : World} {B : Nat} {r : Option Nat} {L : List Bool} (h : Xr w B r L) (bs off len cap : Nat) (t1 t2 : Int)
    (hi : (1 : Int) < (len : Int)) (p2 : w.cell? ⟨bs, off + 2, none⟩ = some (.int .i64 t2)) (p1 : w.cell? ⟨bs, off, none⟩ = some (.int .i64 t1)) (ht : -Gz.far ≤ t1 ∧ t1 < t2 ∧ t2 ≤ Gz.far) (hL : L.length < 1000000) :
    Calls Tryz.prog 76 #[.pointer (some ⟨B, 0, none⟩), .slice (some ⟨bs, off, none⟩) len cap, .int .i64 1] w fun e w' => e = .returned (.tuple #[]) ∧ ∃ r', Xr w' B r' (L ++ Gz.timE 1 ((t2 - t1) - 0) (t2 - t1).toNat) ∧ Gro B r w w' ∧ Anew w r r' := by
  obtain ⟨stp, hstp⟩ : ∃ stp : Nat, (t2 - t1).toNat = stp := ⟨_, rfl⟩
  have hst : IntKind.u64.wrap (IntKind.u64.wrap t2 - IntKind.u64.wrap t1) = (stp : Int) := by rw [IntKind.wrap_u64, IntKind.wrap_u64, IntKind.wrap_u64]; unfold Gz.far at ht; omega
  have hsl : stp < 18446744073709551616 := by unfold Gz.far at ht; omega
  have hi0 : (0 : Int) < (len : Int) := by omega
  rw [hstp, show Gz.timE 1 (t2 - t1 - 0) stp = Bt.vb stp from by unfold Gz.timE; rw [if_pos rfl]]
  have HX := Lib.hid h
  clear h hstp ht
  go_enter Tryz.func76, Tryz.ntmps76
  go_wp2
  go_quiet (fail)
  go_wp2_with fail
  refine (xvarint_any _ B r L stp (HX.out.below (drewN_b _ _)) (by omega) hsl).mono ?_
  rintro e w3 ⟨rfl, r3, hx3, hg3, hn3⟩
  go_wp2_with fail
  (try simp only [Exit.inBlock, Exit.then])
  refine bodyPost_ret (results_none rfl _ _ _) rfl ?_
  exact ⟨rfl, r3, hx3, (Gro.ofBelow (drewN_b _ _)).trans hg3 (Anew.refl _ _), hn3.back (by simp)⟩
/-- A later sample's time. -/
theorem xtime_any {w : World} {n B : Nat} {r : Option Nat} {L : List Bool} {b o c b0 o0 c0 b1 o1 c1 b2 o2 c2 : Nat} (h : Xr w B r L) (hB : n ≤ B) (hr : ∀ k, r = some k → n ≤ k) (hk : BkAt n w b o c b0 o0 c0 b1 o1 c1 b2 o2 c2) (bs off len cap i i1 i2 : Nat) (t0 t1 t2 : Int)
    (hi : (0 : Int) ≤ (i : Int) ∧ (i : Int) < (len : Int)) (h1 : i = i1 + 1) (h2 : i = i2 + 2) (hl : len ≤ 1000000) (p2 : w.cell? ⟨bs, off + i * 2, none⟩ = some (.int .i64 t2)) (p1 : w.cell? ⟨bs, off + i1 * 2, none⟩ = some (.int .i64 t1)) (p0 : w.cell? ⟨bs, off + i2 * 2, none⟩ = some (.int .i64 t0))
    (ht : -Gz.far ≤ t0 ∧ t0 < t1 ∧ t1 < t2 ∧ t2 ≤ Gz.far) (hL : L.length < 1000000) :
    Calls Tryz.prog 76 #[.pointer (some ⟨B, 0, none⟩), .slice (some ⟨bs, off, none⟩) len cap, .int .i64 (i : Int)] w fun e w' => e = .returned (.tuple #[]) ∧ ∃ r', Xr w' B r' (L ++ Gz.timE i ((t2 - t1) - ((t1 - t0).toNat : Int)) (t2 - t1).toNat) ∧ Gro B r w w' ∧ Anew w r r' := by
  obtain ⟨stp, hstp⟩ : ∃ stp : Nat, (t2 - t1).toNat = stp := ⟨_, rfl⟩
  obtain ⟨st0, hst0⟩ : ∃ st0 : Nat, (t1 - t0).toNat = st0 := ⟨_, rfl⟩
  obtain ⟨d, hd⟩ : ∃ d : Int, (t2 - t1) - (st0 : Int) = d := ⟨_, rfl⟩
  have e1 : IntKind.u64.wrap (IntKind.u64.wrap t2 - IntKind.u64.wrap t1) = (stp : Int) := by rw [IntKind.wrap_u64, IntKind.wrap_u64, IntKind.wrap_u64]; unfold Gz.far at ht; omega
  have e2 : IntKind.u64.wrap (IntKind.u64.wrap t1 - IntKind.u64.wrap t0) = (st0 : Int) := by rw [IntKind.wrap_u64, IntKind.wrap_u64, IntKind.wrap_u64]; unfold Gz.far at ht; omega
  have e3 : wrap64 (IntKind.u64.wrap ((stp : Int) - st0)) = d := by rw [IntKind.wrap_u64]; unfold wrap64; unfold Gz.far at ht; omega
  have hdl : -9223372036854775808 ≤ d ∧ d ≤ 9223372036854775807 := by unfold Gz.far at ht; omega
  rw [hstp, hst0, hd]
  unfold Gz.timE
  rw [if_neg (by omega)]
  by_cases q0 : d = 0
  · rw [if_pos q0]
    exact xtime_zero h hB hr hk bs off len cap i i1 i2 t0 t1 t2 hi h1 h2 hl p2 p1 p0 stp st0 d e1 e2 e3 hL q0
  rw [if_neg q0]
  by_cases q1 : -63 ≤ d ∧ d ≤ 64
  · rw [if_pos q1]
    exact xtime_b1 h hB hr hk bs off len cap i i1 i2 t0 t1 t2 hi h1 h2 hl p2 p1 p0 stp st0 d e1 e2 e3 hL q0 q1
  rw [if_neg q1]
  by_cases q2 : -255 ≤ d ∧ d ≤ 256
  · rw [if_pos q2]
    by_cases s : d < -63
    · exact xtime_b2n h hB hr hk bs off len cap i i1 i2 t0 t1 t2 hi h1 h2 hl p2 p1 p0 stp st0 d e1 e2 e3 hL q0 q2 s
    · exact xtime_b2p h hB hr hk bs off len cap i i1 i2 t0 t1 t2 hi h1 h2 hl p2 p1 p0 stp st0 d e1 e2 e3 hL q0 q2 (by omega)
  rw [if_neg q2]
  by_cases q3 : -2047 ≤ d ∧ d ≤ 2048
  · rw [if_pos q3]
    by_cases s : d < -255
    · exact xtime_b3n h hB hr hk bs off len cap i i1 i2 t0 t1 t2 hi h1 h2 hl p2 p1 p0 stp st0 d e1 e2 e3 hL q0 q3 s
    · exact xtime_b3p h hB hr hk bs off len cap i i1 i2 t0 t1 t2 hi h1 h2 hl p2 p1 p0 stp st0 d e1 e2 e3 hL q0 q3 (by omega)
  rw [if_neg q3]
  by_cases s : d < -2047
  · exact xtime_b4n h hB hr hk bs off len cap i i1 i2 t0 t1 t2 hi h1 h2 hl p2 p1 p0 stp st0 d e1 e2 e3 hL q0 hdl s
  · exact xtime_b4p h hB hr hk bs off len cap i i1 i2 t0 t1 t2 hi h1 h2 hl p2 p1 p0 stp st0 d e1 e2 e3 hL q0 hdl (by omega)
end Go.Proofs.YtepjpdhmjchakaaGreatDoor
