/- Both writers: a call of each. -/
import Derived.Test.YtnplcfgjidolbaaXBytes
import Derived.Deep.RegionHeld3
import Derived.Deep.OwnRows
namespace Go.Proofs.Ytnplcfgjidolbaa
open Go.RowKit bitsBack

theorem Gro.kept {p : Nat} {r : Option Nat} {w w' : World} (g : Gro p r w w') {base : Nat} {e : TypeId} {size : Nat} {v : Value} {n : Nat} {xs : List Value} (h : w.ownsRow base e size v n xs)
    (h1 : v.ownBlock ≠ some p) (h2 : ∀ k, r = some k → v.ownBlock ≠ some k) : w'.ownsRow base e size v n xs :=
  own_of_same h (fun k hk => g.block k (h.lt k hk).2 (fun e => h1 (by rw [hk, e])) (fun e => h2 k e.symm hk))
theorem Wr.keep {w w' : World} {B p : Nat} {r q : Option Nat} {L : List Bool} (h : Wr w B r L) (g : Gro p q w w') (h1 : B ≠ p) (h2 : q ≠ some B) (h3 : r ≠ some p) (h4 : ∀ k, q = some k → r ≠ some k) : Wr w' B r L := by
  obtain ⟨⟨v, hB, hown, hr⟩, hne⟩ := h
  subst hr
  exact ⟨⟨v, by rw [g.block B (block_lt_of_cell (two_cells hB).1) h1 (fun e => h2 e.symm)]; exact hB, g.kept hown h3 h4, rfl⟩, hne⟩
theorem Xr.keep {w w' : World} {B p : Nat} {r q : Option Nat} {L : List Bool} (h : Xr w B r L) (g : Gro p q w w') (h1 : B ≠ p) (h2 : q ≠ some B) (h3 : r ≠ some p) (h4 : ∀ k, q = some k → r ≠ some k) : Xr w' B r L := by
  obtain ⟨⟨v, hB, hown, hr⟩, hne⟩ := h
  subst hr
  exact ⟨⟨v, by rw [g.block B (block_lt_of_cell (two_cells hB).1) h1 (fun e => h2 e.symm)]; exact hB, g.kept hown h3 h4, rfl⟩, hne⟩
theorem Wr.lt {w : World} {B : Nat} {r : Option Nat} {L : List Bool} (h : Wr w B r L) : B < w.heap.size ∧ ∀ k, r = some k → k < w.heap.size := by
  obtain ⟨⟨v, hB, hown, hr⟩, hne⟩ := h
  subst hr
  exact ⟨block_lt_of_cell (two_cells hB).1, fun k hk => (hown.lt k hk).2⟩
theorem Xr.lt {w : World} {B : Nat} {r : Option Nat} {L : List Bool} (h : Xr w B r L) : B < w.heap.size ∧ ∀ k, r = some k → k < w.heap.size := by
  obtain ⟨⟨v, hB, hown, hr⟩, hne⟩ := h
  subst hr
  exact ⟨block_lt_of_cell (two_cells hB).1, fun k hk => (hown.lt k hk).2⟩

/-- Both writers, apart. -/
structure Tw (w : World) (B Bx : Nat) (r rx : Option Nat) (L Lx : List Bool) : Prop where
  a : Wr w B r L
  b : Xr w Bx rx Lx
  n1 : B ≠ Bx
  n2 : r ≠ some Bx
  n3 : rx ≠ some B
  n4 : ∀ k, r = some k → rx ≠ some k

theorem Tw.left {w w' : World} {B Bx : Nat} {r rx r' : Option Nat} {L L' Lx : List Bool} (h : Tw w B Bx r rx L Lx) (hw : Wr w' B r' L') (g : Gro B r w w') (ha : Anew w r r') : Tw w' B Bx r' rx L' Lx := by
  refine ⟨hw, h.b.keep g h.n1.symm h.n2 h.n3 (fun k hk => h.n4 k hk), h.n1, fun e => ?_, h.n3, fun k hk e => ?_⟩
  · rcases ha _ e with e2 | e2
    · exact h.n2 e2
    · have := h.b.lt.1; omega
  · rcases ha _ hk with e2 | e2
    · exact h.n4 k e2 e
    · have := h.b.lt.2 k e; omega
theorem Tw.right {w w' : World} {B Bx : Nat} {r rx r' : Option Nat} {L L' Lx : List Bool} (h : Tw w B Bx r rx L Lx) (hw : Xr w' Bx r' L') (g : Gro Bx rx w w') (ha : Anew w rx r') : Tw w' B Bx r r' L L' := by
  refine ⟨h.a.keep g h.n1 h.n3 h.n2 (fun k hk e => h.n4 k e hk), hw, h.n1, h.n2, fun e => ?_, fun k hk e => ?_⟩
  · rcases ha _ e with e2 | e2
    · exact h.n3 e2
    · have := h.a.lt.1; omega
  · rcases ha _ e with e2 | e2
    · exact h.n4 k hk e2
    · have := h.a.lt.2 k hk; omega
theorem gro_of_below {p : Nat} {w w' : World} (h : Below w.heap.size w w') : Gro p none w w' := ⟨h.os, h.tape, h.output, h.size, fun k hk _ _ => h.block k hk⟩
theorem Xr.below {w w' : World} {B : Nat} {r : Option Nat} {L : List Bool} (h : Xr w B r L) (hb : Below w.heap.size w w') : Xr w' B r L := by
  obtain ⟨⟨v, hB, hown, hr⟩, hne⟩ := h
  exact ⟨⟨v, by rw [hb.block B (block_lt_of_cell (two_cells hB).1)]; exact hB, own_of_same hown (fun k hk => hb.block k (hown.lt k hk).2), hr⟩, hne⟩
theorem Tw.below {w w' : World} {B Bx : Nat} {r rx : Option Nat} {L Lx : List Bool} (h : Tw w B Bx r rx L Lx) (hb : Below w.heap.size w w') : Tw w' B Bx r rx L Lx :=
  ⟨h.a.below hb (Nat.le_refl _), h.b.below hb, h.n1, h.n2, h.n3, h.n4⟩

/-- Only two blocks and two rows of what was there may have turned. -/
structure Gr2 (p q : Nat) (r s : Option Nat) (w w' : World) : Prop where
  os : w'.os = w.os
  tape : w'.tape = w.tape
  output : w'.output = w.output
  size : w.heap.size ≤ w'.heap.size
  block : ∀ k, k < w.heap.size → k ≠ p → k ≠ q → some k ≠ r → some k ≠ s → w'.heap[k]? = w.heap[k]?
theorem gr2_of {p q : Nat} {r s : Option Nat} {w w1 w2 w3 : World} (h0 : Below w.heap.size w w1) (h1 : Gro p r w1 w2) (h2 : Gro q s w2 w3) : Gr2 p q r s w w3 :=
  ⟨h2.os.trans (h1.os.trans h0.os), h2.tape.trans (h1.tape.trans h0.tape), h2.output.trans (h1.output.trans h0.output), Nat.le_trans h0.size (Nat.le_trans h1.size h2.size), fun k hk a b c d =>
    (h2.block k (Nat.lt_of_lt_of_le hk (Nat.le_trans h0.size h1.size)) b d).trans ((h1.block k (Nat.lt_of_lt_of_le hk h0.size) a c).trans (h0.block k hk))⟩
theorem gr2_below {p q : Nat} {r s : Option Nat} {w w1 : World} (h0 : Below w.heap.size w w1) : Gr2 p q r s w w1 := ⟨h0.os, h0.tape, h0.output, h0.size, fun k hk _ _ _ _ => h0.block k hk⟩
theorem Anew.back {w w1 : World} {r r' : Option Nat} (h : Anew w1 r r') (hs : w.heap.size ≤ w1.heap.size) : Anew w r r' := fun k hk => (h k hk).imp id (fun h => Nat.le_trans hs h)

/-- The copy of a call, behind what left its block. -/
theorem copy_at {w1 w2 : World} {b : Nat} {x : Opv} {p : Nat} {r : Option Nat} (hb : w1.heap[b]? = some (.cells #[.int .u8 (x.k : Int), .int .u64 (x.v : Int), .int .i64 x.n] 79 (0, 0))) (g : Gro p r w1 w2) (h1 : b ≠ p) (h2 : r ≠ some b) :
    w2.heap[b]? = some (.cells #[.int .u8 (x.k : Int), .int .u64 (x.v : Int), .int .i64 x.n] 79 (0, 0)) := by
  rw [g.block b ?_ h1 (fun e => h2 e.symm)]
  · exact hb
  · rcases Nat.lt_or_ge b w1.heap.size with h | h
    · exact h
    · rw [Array.getElem?_eq_none h] at hb; cases hb
theorem copy_three {w : World} {b : Nat} {x : Opv} (hb : w.heap[b]? = some (.cells #[.int .u8 (x.k : Int), .int .u64 (x.v : Int), .int .i64 x.n] 79 (0, 0))) :
    w.cell? ⟨b, 1, none⟩ = some (.int .u64 (x.v : Int)) ∧ w.cell? ⟨b, 2, none⟩ = some (.int .i64 x.n) :=
  ⟨by rw [cell_of_row _ _ _ _ _ _ hb]; rfl, by rw [cell_of_row _ _ _ _ _ _ hb]; rfl⟩

theorem odd_of2 (v : Nat) : (((v : Int) % 2) == 1) = decide (v % 2 = 1) := by
  by_cases h : v % 2 = 1
  · have : (v : Int) % 2 = 1 := by omega
    simp [h, this]
  · have : (v : Int) % 2 = 0 := by omega
    simp [h, this]
/-- The bits that so wide a put puts; its error. -/
def wide (v : Nat) (z : Int) : List Bool := if 0 ≤ z ∧ z ≤ 64 then Bt.nb v z.toNat else []
def wideE (z : Int) : Int := if 0 ≤ z ∧ z ≤ 64 then 0 else 1
theorem bits_n (w : World) (B : Nat) (r : Option Nat) (L : List Bool) (v : Nat) (z : Int) (h : Wr w B r L) (hL : L.length < 1099511626000) (hv : v < 18446744073709551616) :
    Calls Try.prog 24 #[.pointer (some ⟨B, 0, none⟩), .int .u64 v, .int .i64 z] w fun e w' => e = .returned (.int .u16 (wideE z)) ∧ ∃ r', Wr w' B r' (L ++ wide v z) ∧ Gro B r w w' ∧ Anew w r r' := by
  unfold wide wideE
  by_cases hz : 0 ≤ z ∧ z ≤ 64
  · obtain ⟨m, rfl⟩ := Int.eq_ofNat_of_zero_le hz.1
    rw [if_pos hz, if_pos hz]
    exact bits_any w B r L v m h (by omega) hv (by omega)
  · rw [if_neg hz, if_neg hz]
    refine (bits_bad w B v z (by omega)).mono ?_
    rintro e w' ⟨rfl, rfl⟩
    exact ⟨rfl, r, by rw [List.append_nil]; exact h, Gro.refl _ _ _, Anew.refl _ _⟩
theorem xbits_n (w : World) (B : Nat) (r : Option Nat) (L : List Bool) (v : Nat) (z : Int) (h : Xr w B r L) (hL : L.length < 1099511626000) (hv : v < 18446744073709551616) :
    Calls Try.prog 53 #[.pointer (some ⟨B, 0, none⟩), .int .u64 v, .int .i64 z] w fun e w' => e = .returned (.int .u16 (wideE z)) ∧ ∃ r', Xr w' B r' (L ++ wide v z) ∧ Gro B r w w' ∧ Anew w r r' := by
  unfold wide wideE
  by_cases hz : 0 ≤ z ∧ z ≤ 64
  · obtain ⟨m, rfl⟩ := Int.eq_ofNat_of_zero_le hz.1
    rw [if_pos hz, if_pos hz]
    exact xbits_any w B r L v m h (by omega) hv (by omega)
  · rw [if_neg hz, if_neg hz]
    refine (xbits_bad w B v z (by omega)).mono ?_
    rintro e w' ⟨rfl, rfl⟩
    exact ⟨rfl, r, by rw [List.append_nil]; exact h, Gro.refl _ _ _, Anew.refl _ _⟩
/-- What a call of both leaves. -/
def Puts (w : World) (B Bx : Nat) (r rx : Option Nat) (L : List Bool) (e : Ending) (w' : World) : Prop :=
  e = .returned (.bool true) ∧ ∃ r' rx', Tw w' B Bx r' rx' L L ∧ Gr2 B Bx r rx w w' ∧ Anew w r r' ∧ Anew w rx rx'

set_option maxHeartbeats 1000000 in
set_option maxRecDepth 100000 in
theorem puts_any (w : World) (B Bx : Nat) (r rx : Option Nat) (L : List Bool) (x : Opv) (h : Tw w B Bx r rx L L) (hL : L.length < 1099511626000) (hv0 : x.v < 18446744073709551616) (hk0 : x.k < 256) :
    Calls Try.prog 19 #[.pointer (some ⟨B, 0, none⟩), .pointer (some ⟨Bx, 0, none⟩), .agg #[.int .u8 (x.k : Int), .int .u64 (x.v : Int), .int .i64 x.n]] w (Puts w B Bx r rx (L ++ opBits x)) := by
  have hB := h.a.lt
  have hX := h.b.lt
  have hcp : (w.alloc (.cells #[.int .u8 (x.k : Int), .int .u64 (x.v : Int), .int .i64 x.n] 79)).heap[w.heap.size]? = some (.cells #[.int .u8 (x.k : Int), .int .u64 (x.v : Int), .int .i64 x.n] 79 (0, 0)) := heap_alloc_new _ _
  have hbel : Below w.heap.size w (w.alloc (.cells #[.int .u8 (x.k : Int), .int .u64 (x.v : Int), .int .i64 x.n] 79)) := (Below.refl _ _).alloc (Nat.le_refl _) _
  have hT1 := h.below hbel
  have hq1 : r ≠ some w.heap.size := fun e => by have := hB.2 _ e; omega
  have hq2 : rx ≠ some w.heap.size := fun e => by have := hX.2 _ e; omega
  have hodd := odd_of2 x.v
  have HT := Lib.hid hT1
  have HCP := Lib.hid hcp
  have HBEL := Lib.hid hbel
  have hkk : x.k % 4 = 0 ∨ x.k % 4 = 1 ∨ x.k % 4 = 2 ∨ x.k % 4 = 3 := by omega
  clear h hcp hbel hT1
  rcases hkk with hkk | hkk | hkk | hkk
  · have hki : (x.k : Int) % 4 = 0 := by omega
    have hob : opBits x = [decide (x.v % 2 = 1)] := by unfold opBits; rw [if_pos hkk]
    rw [hob]
    clear hob
    have HC := Lib.hid (bit_any (w.alloc (.cells #[.int .u8 (x.k : Int), .int .u64 (x.v : Int), .int .i64 x.n] 79)) B r L (decide (x.v % 2 = 1)) HT.out.a (by omega))
    go_enter Try.func19, Try.ntmps19
    go_wp2_with (first
      | (go_at_call 23; refine Calls.mono HC.out ?_; rintro e w1 ⟨rfl, r1, hW1, hG1, hA1⟩; have HT2 := Lib.hid (HT.out.left hW1 hG1 hA1); have hcp1 := copy_at HCP.out hG1 (by omega) hq1; obtain ⟨y1, y2⟩ := copy_three hcp1; have HG1 := Lib.hid hG1; have HA1 := Lib.hid hA1; have HC2 := Lib.hid (xbit_any w1 Bx rx L (decide (x.v % 2 = 1)) HT2.out.b (by omega)); clear hW1 hG1 hA1 hcp1)
      | (go_at_call 52; refine Calls.mono HC2.out ?_; rintro e w2 ⟨rfl, r2, hX2, hG2, hA2⟩))
    go_ret
    exact ⟨rfl, r1, r2, HT2.out.right hX2 hG2 hA2, gr2_of HBEL.out HG1.out hG2, Anew.back HA1.out HBEL.out.size, Anew.back hA2 (Nat.le_trans HBEL.out.size HG1.out.size)⟩
  · have hki : (x.k : Int) % 4 = 1 := by omega
    have hob : opBits x = wide x.v x.n := by unfold opBits; rw [if_neg (by omega), if_pos hkk]; rfl
    rw [hob]
    clear hob
    have hT3 : Tw (w.alloc (.cells #[.int .u8 (x.k : Int), .int .u64 (x.v : Int), .int .i64 x.n] 79)).drew B Bx r rx L L := HT.out.below ⟨rfl, rfl, rfl, Nat.le_refl _, fun _ _ => rfl⟩
    have HT3 := Lib.hid hT3
    have HC := Lib.hid (bits_n (w.alloc (.cells #[.int .u8 (x.k : Int), .int .u64 (x.v : Int), .int .i64 x.n] 79)).drew B r L x.v x.n HT3.out.a (by omega) hv0)
    have hcp3 : (w.alloc (.cells #[.int .u8 (x.k : Int), .int .u64 (x.v : Int), .int .i64 x.n] 79)).drew.heap[w.heap.size]? = some (.cells #[.int .u8 (x.k : Int), .int .u64 (x.v : Int), .int .i64 x.n] 79 (0, 0)) := HCP.out
    obtain ⟨s1, s2⟩ := copy_three hcp3
    have HCP3 := Lib.hid hcp3
    clear hT3 hcp3
    generalize he : wideE x.n = ev at *
    go_enter Try.func19, Try.ntmps19
    go_wp2
    go_region_held3 (fun w' => w'.cell? ⟨w.heap.size, 1, none⟩ = some (.int .u64 (x.v : Int)) ∧ w'.cell? ⟨w.heap.size, 2, none⟩ = some (.int .i64 x.n)) (first | assumption | exact ⟨by assumption, by assumption⟩) (first
      | (go_at_call 24; refine Calls.mono HC.out ?_; rintro e w1 ⟨rfl, r1, hW1, hG1, hA1⟩; have HT2 := Lib.hid (HT3.out.left hW1 hG1 hA1); have hcp1 := copy_at HCP3.out hG1 (by omega) hq1; obtain ⟨y1, y2⟩ := copy_three hcp1; have HCP1 := Lib.hid hcp1; have HG1 := Lib.hid hG1; have HA1 := Lib.hid hA1; have HC2 := Lib.hid (xbits_n w1 Bx rx L x.v x.n HT2.out.b (by omega) hv0); clear hW1 hG1 hA1 hcp1; simp only [he] at HC2)
      | (go_at_call 53; refine Calls.mono HC2.out ?_; rintro e w2 ⟨rfl, r2, hX2, hG2, hA2⟩; obtain ⟨z1, z2⟩ := copy_three (copy_at HCP1.out hG2 (by omega) hq2)))
    all_goals go_wp2
    go_ret
    exact ⟨rfl, r1, r2, HT2.out.right hX2 hG2 hA2, gr2_of (w1 := (w.alloc (.cells #[.int .u8 (x.k : Int), .int .u64 (x.v : Int), .int .i64 x.n] 79)).drew) ⟨HBEL.out.os, HBEL.out.tape, HBEL.out.output, HBEL.out.size, HBEL.out.block⟩ HG1.out hG2, Anew.back HA1.out HBEL.out.size, Anew.back hA2 (Nat.le_trans HBEL.out.size HG1.out.size)⟩
  · have hki : (x.k : Int) % 4 = 2 := by omega
    have hob : opBits x = Bt.vb x.v := by unfold opBits; rw [if_neg (by omega), if_neg (by omega), if_pos hkk]
    rw [hob]
    clear hob
    have HC := Lib.hid (varint_any (w.alloc (.cells #[.int .u8 (x.k : Int), .int .u64 (x.v : Int), .int .i64 x.n] 79)) B r L x.v HT.out.a (by omega) hv0)
    go_enter Try.func19, Try.ntmps19
    go_wp2_with (first
      | (go_at_call 15; refine Calls.mono HC.out ?_; rintro e w1 ⟨rfl, r1, hW1, hG1, hA1⟩; have HT2 := Lib.hid (HT.out.left hW1 hG1 hA1); have hcp1 := copy_at HCP.out hG1 (by omega) hq1; obtain ⟨y1, y2⟩ := copy_three hcp1; have HG1 := Lib.hid hG1; have HA1 := Lib.hid hA1; have HC2 := Lib.hid (xvarint_any w1 Bx rx L x.v HT2.out.b (by omega) hv0); clear hW1 hG1 hA1 hcp1)
      | (go_at_call 54; refine Calls.mono HC2.out ?_; rintro e w2 ⟨rfl, r2, hX2, hG2, hA2⟩))
    go_ret
    exact ⟨rfl, r1, r2, HT2.out.right hX2 hG2 hA2, gr2_of HBEL.out HG1.out hG2, Anew.back HA1.out HBEL.out.size, Anew.back hA2 (Nat.le_trans HBEL.out.size HG1.out.size)⟩
  · have hki : (x.k : Int) % 4 = 3 := by omega
    have hob : opBits x = Bt.vb (zz (wrap64 (x.v : Int))) := by unfold opBits; rw [if_neg (by omega), if_neg (by omega), if_neg (by omega)]
    rw [hob]
    clear hob
    have HC := Lib.hid (signed_any (w.alloc (.cells #[.int .u8 (x.k : Int), .int .u64 (x.v : Int), .int .i64 x.n] 79)) B r L (wrap64 (x.v : Int)) HT.out.a (by omega) (sv_in _).1 (sv_in _).2)
    go_enter Try.func19, Try.ntmps19
    go_wp2_with (first
      | (go_at_call 25; refine Calls.mono HC.out ?_; rintro e w1 ⟨rfl, r1, hW1, hG1, hA1⟩; have HT2 := Lib.hid (HT.out.left hW1 hG1 hA1); have hcp1 := copy_at HCP.out hG1 (by omega) hq1; obtain ⟨y1, y2⟩ := copy_three hcp1; have HG1 := Lib.hid hG1; have HA1 := Lib.hid hA1; have HC2 := Lib.hid (xsigned_any w1 Bx rx L (wrap64 (x.v : Int)) HT2.out.b (by omega) (sv_in _).1 (sv_in _).2); clear hW1 hG1 hA1 hcp1)
      | (go_at_call 55; refine Calls.mono HC2.out ?_; rintro e w2 ⟨rfl, r2, hX2, hG2, hA2⟩))
    go_ret
    exact ⟨rfl, r1, r2, HT2.out.right hX2 hG2 hA2, gr2_of HBEL.out HG1.out hG2, Anew.back HA1.out HBEL.out.size, Anew.back hA2 (Nat.le_trans HBEL.out.size HG1.out.size)⟩
end Go.Proofs.Ytnplcfgjidolbaa
