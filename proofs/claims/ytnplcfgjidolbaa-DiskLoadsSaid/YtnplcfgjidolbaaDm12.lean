/- Bits, eight a byte, as the document packs them: plain. The document's bits as bytes. Both writers: a call of each. The book's rows: what holds of them while they are marked, lengthened and looked at. -/
import Derived.Test.YtnplcfgjidolbaaDm11
import Derived.Deep.RegionHeld3
import Derived.Deep.OwnRows
section
namespace Go.Proofs.Ytnplcfgjidolbaa.Bt

/-- The number of the k bits from i on, noughts behind the end. -/
def cv (L : List Bool) (i k : Nat) : Nat := val ((List.range k).map fun t => L.getD (i + t) false)
theorem cv_zero (L : List Bool) (i : Nat) : cv L i 0 = 0 := by simp [cv, val]
theorem cv_succ (L : List Bool) (i k : Nat) : cv L i (k + 1) = 2 * cv L i k + (L.getD (i + k) false).toNat := by
  unfold cv
  rw [List.range_succ, List.map_append, List.map_singleton, val_snoc]
theorem cv_lt (L : List Bool) (i k : Nat) : cv L i k < 2 ^ k := by
  have h := val_lt ((List.range k).map fun t => L.getD (i + t) false)
  simpa [cv] using h
theorem byte_val (y : UInt8) : val ((List.range 8).map fun t => y.toBitVec.getLsbD (7 - t)) = y.toNat := by
  have h : ∀ n : Fin 256, val ((List.range 8).map fun t => (BitVec.ofNat 8 n.val).getLsbD (7 - t)) = n.val := by decide +kernel
  have h2 := h ⟨y.toNat, y.toNat_lt⟩
  have e : BitVec.ofNat 8 y.toNat = y.toBitVec := by apply BitVec.eq_of_toNat_eq; simp
  rw [e] at h2
  exact h2
theorem cv_pack (L : List Bool) (c : Nat) (hc : c < (pack L).length) : cv L (8 * c) 8 = ((pack L)[c]).toNat := by
  rw [← byte_val]
  unfold cv
  congr 1
  apply List.map_congr_left
  intro t ht
  have ht8 : t < 8 := List.mem_range.1 ht
  rw [← pack_bit L (8 * c + t)]
  unfold mbit
  have e1 : (8 * c + t) / 8 = c := by omega
  have e2 : (8 * c + t) % 8 = t := by omega
  rw [e1, e2]
  simp [List.getD, hc]
theorem pack_take (L : List Bool) (c : Nat) (hc : c < (pack L).length) : (pack L).take (c + 1) = (pack L).take c ++ [UInt8.ofNat (cv L (8 * c) 8)] := by
  rw [List.take_succ_eq_append_getElem hc, cv_pack L c hc]
  simp
end Go.Proofs.Ytnplcfgjidolbaa.Bt
end
section
namespace Go.Proofs.Ytnplcfgjidolbaa
open Go.RowKit

theorem fb_one (l : List Bool) : ∀ u ∈ l.map fb, u.oneCell' = true := by
  intro u hu
  obtain ⟨_, _, rfl⟩ := List.mem_map.1 hu
  rfl
theorem fb_nat (b : Bool) : fb b = .int .u8 ((b.toNat : Nat) : Int) := by cases b <;> rfl
theorem Xr.sl {w : World} {B : Nat} {r : Option Nat} {L : List Bool} (h : Xr w B r L) (hL : L.length < 1099511627776) :
    ∃ v, w.heap[B]? = some (.cells #[v, .int .i64 0] 41 (0, 0)) ∧ Sl 0 w.heap.size fb w v L := by
  obtain ⟨⟨v, hB, hown, _⟩, _⟩ := h
  exact ⟨v, hB, Sl.owns hown (by omega)⟩

set_option maxRecDepth 100000 in
theorem xbytes_any (w : World) (B : Nat) (r : Option Nat) (L : List Bool) (h : Xr w B r L) (hL : L.length < 1099511627776) :
    Calls Try.prog 21 #[.pointer (some ⟨B, 0, none⟩)] w fun e w' => ∃ v', e = .returned v' ∧ w'.ownsRow w.heap.size 5 1 v' (Bt.pack L).length ((Bt.pack L).map f8) ∧ Below w.heap.size w w' := by
  obtain ⟨v, hB, hs⟩ := h.sl hL
  obtain ⟨i0, hi0, hz0, hz1, hz2⟩ := info_parts info5
  have hBl : B < w.heap.size := block_lt_of_cell (two_cells hB).1
  have hpl := Bt.pack_len L
  obtain ⟨ao, cap, rfl, hsl⟩ := hs
  have HB := Lib.hid hB
  have HS := Lib.hid hsl
  have HP := Lib.hid hpl
  clear hB hsl h
  go_enter Try.func21, Try.ntmps21
  go_wp2
  go_loopw [3, 4] (fun o i wr => ∃ c : Nat, c ≤ (Bt.pack L).length ∧ i = .int .i64 ((8 * c : Nat) : Int) ∧ wr.ownsRow w.heap.size 5 1 o c (((Bt.pack L).take c).map f8) ∧ Below w.heap.size w wr) (fun _ i _ => 8 * (Bt.pack L).length - (intOf i).toNat)
  case atStart => exact ⟨0, Nat.zero_le _, rfl, by simpa using World.ownsRow_nil _ _ _ _, Below.refl _ _⟩
  case round =>
    obtain ⟨c, hc, rfl, hown, hbel⟩ := hrel
    have HO := Lib.hid hown
    have HBel := Lib.hid hbel
    have hsz := hbel.size
    obtain ⟨c0, c1, fz⟩ := two_cells (show wr.heap[B]? = _ from (hbel.block B hBl).trans HB.out)
    have HSL := Lib.hid (HS.out.below hbel (Nat.le_refl _))
    clear hown hbel
    by_cases hlt : 8 * c < L.length
    · have hcl : c < (Bt.pack L).length := by rw [HP.out]; omega
      go_wp2
      go_loopw [5, 6] (fun n k w' => ∃ j : Nat, j ≤ 8 ∧ k = .int .i64 j ∧ n = .int .i64 (Bt.cv L (8 * c) j : Nat) ∧ wr = w') (fun _ k _ => 8 - (intOf k).toNat)
      case atStart => exact ⟨0, by omega, rfl, by rw [Bt.cv_zero]; rfl, rfl⟩
      case round =>
        obtain ⟨j, hj, rfl, rfl, hw⟩ := hrel
        subst hw
        have hcv := Bt.cv_lt L (8 * c) j
        by_cases hj8 : j < 8
        · have hcv2 : Bt.cv L (8 * c) j < 256 := Nat.lt_of_lt_of_le hcv (Nat.pow_le_pow_right (by omega) hj)
          have hsucc := Bt.cv_succ L (8 * c) j
          by_cases hin : 8 * c + j < L.length
          · obtain ⟨b, off, rfl, _, _, hcell⟩ := HSL.out.cells (by intro e; subst e; simp at hin)
            have hcc := hcell (8 * c + j) hin
            rw [fb_nat] at hcc
            have hgd : L.getD (8 * c + j) false = L[8 * c + j] := by simp [List.getD, hin]
            rw [hgd] at hsucc
            have ht : L[8 * c + j].toNat ≤ 1 := by cases L[8 * c + j] <;> decide
            generalize L[8 * c + j].toNat = t at *
            generalize Bt.cv L (8 * c) j = y at *
            have HSU := Lib.hid hsucc
            have i1 : (0 : Int) ≤ ((8 * c + j : Nat) : Int) ∧ ((8 * c + j : Nat) : Int) < (L.length : Int) := by omega
            clear hsucc hcell hgd hcv
            go_wp2
            go_roundw
            case rel => exact ⟨j + 1, by omega, by push_cast; rfl, by rw [HSU.out]; push_cast; rfl, trivial⟩
            case measure => simp [intOf]; omega
          · have hgd : L.getD (8 * c + j) false = false := by simp [List.getD, hin]
            rw [hgd] at hsucc
            generalize Bt.cv L (8 * c) j = y at *
            have HSU := Lib.hid hsucc
            clear hsucc hgd hcv
            go_wp2
            go_roundw
            case rel => exact ⟨j + 1, by omega, by push_cast; rfl, by rw [HSU.out]; simp, trivial⟩
            case measure => simp [intOf]; omega
        · obtain rfl : j = 8 := by omega
          have hpt := Bt.pack_take L c hcl
          generalize Bt.cv L (8 * c) 8 = y at *
          have hy : y < 256 := hcv
          have HPT := Lib.hid hpt
          clear hpt hcv
          go_wp2_with (at_builtin; refine wpList_append_own _ rfl (.tmp 43) (.tmp 46) 22 rfl w.heap.size 5 i0 (.int .u8 0) 1 1 Try.underlying22 hi0 hz0 hz1 hz2 rfl (by decide) _ _ _ rfl (HO.out.alloc _) ⟨wr.heap.size, 0, none⟩ 1 1 [.int .u8 (y : Int)] rfl rfl (news_alloc wr [.int .u8 (y : Int)] 5) (by simp [Value.oneCell']) (by unfold maxLen; omega) (by omega) (by simp; omega) ?_; intro v1 w1 hown1 hgrow1 _; have HO1 := Lib.hid hown1; have HG1 := Lib.hid hgrow1; clear hown1 hgrow1)
          go_roundw
          case rel =>
            refine ⟨c + 1, by omega, by push_cast; rfl, ?_, ?_⟩
            · rw [HPT.out, List.map_append]
              have e : [UInt8.ofNat y].map f8 = [.int .u8 (y : Int)] := by
                simp [f8, W8]; omega
              rw [e]
              exact HO1.out
            · exact (HBel.out.alloc hsz _).grown HG1.out (by simp; omega) (own_row HO.out)
          case measure => simp [intOf]; omega
    · have e : c = (Bt.pack L).length := by have := HP.out; omega
      subst e
      go_wp2
      go_ret
      refine ⟨_, rfl, ?_, HBel.out⟩
      have := HO.out
      rw [List.take_length] at this
      exact this
end Go.Proofs.Ytnplcfgjidolbaa
end
section
namespace Go.Proofs.Ytnplcfgjidolbaa
open Go.RowKit bitsBack

theorem Gro.kept {p : Nat} {r : Option Nat} {w w' : World} (g : Gro p r w w') {base : Nat} {e : TypeId} {size : Nat} {v : Value} {n : Nat} {xs : List Value} (h : w.ownsRow base e size v n xs)
    (h1 : v.ownBlock ≠ some p) (h2 : ∀ k, r = some k → v.ownBlock ≠ some k) : w'.ownsRow base e size v n xs :=
  own_of_same h (fun k hk => g.block k (h.lt k hk).2 (fun e => h1 (by rw [hk, e])) (fun e => h2 k e.symm hk))
theorem Wr.keep {w w' : World} {B p : Nat} {r q : Option Nat} {L : List Bool} (h : Wr w B r L) (g : Gro p q w w') (h1 : B ≠ p) (h2 : q ≠ some B) (h3 : r ≠ some p) (h4 : ∀ k, q = some k → r ≠ some k) : Wr w' B r L := by
  obtain ⟨⟨v, hB, hown, hr⟩, hne⟩ := h
  subst hr
  exact ⟨⟨v, by rw [g.block B (block_lt_of_cell (two_cells hB).1) h1 (fun e => h2 e.symm)]; exact hB, g.kept hown h3 h4, rfl⟩, hne⟩
theorem Xr.keep {w w' : World} {B p : Nat} {r q : Option Nat} {L : List Bool} (h : Xr w B r L) (g : Gro p q w w') (h1 : B ≠ p) (h2 : q ≠ some B) (h3 : r ≠ some p) (h4 : ∀ k, q = some k → r ≠ some k) : Xr w' B r L := by
  obtain ⟨⟨v, hB, hown, hr⟩, hne⟩ := h
  subst hr
  exact ⟨⟨v, by rw [g.block B (block_lt_of_cell (two_cells hB).1) h1 (fun e => h2 e.symm)]; exact hB, g.kept hown h3 h4, rfl⟩, hne⟩
theorem Wr.lt {w : World} {B : Nat} {r : Option Nat} {L : List Bool} (h : Wr w B r L) : B < w.heap.size ∧ ∀ k, r = some k → k < w.heap.size := by
  obtain ⟨⟨v, hB, hown, hr⟩, hne⟩ := h
  subst hr
  exact ⟨block_lt_of_cell (two_cells hB).1, fun k hk => (hown.lt k hk).2⟩
theorem Xr.lt {w : World} {B : Nat} {r : Option Nat} {L : List Bool} (h : Xr w B r L) : B < w.heap.size ∧ ∀ k, r = some k → k < w.heap.size := by
  obtain ⟨⟨v, hB, hown, hr⟩, hne⟩ := h
  subst hr
  exact ⟨block_lt_of_cell (two_cells hB).1, fun k hk => (hown.lt k hk).2⟩

/-- Both writers, apart. -/
structure Tw (w : World) (B Bx : Nat) (r rx : Option Nat) (L Lx : List Bool) : Prop where
  a : Wr w B r L
  b : Xr w Bx rx Lx
  n1 : B ≠ Bx
  n2 : r ≠ some Bx
  n3 : rx ≠ some B
  n4 : ∀ k, r = some k → rx ≠ some k

theorem Tw.left {w w' : World} {B Bx : Nat} {r rx r' : Option Nat} {L L' Lx : List Bool} (h : Tw w B Bx r rx L Lx) (hw : Wr w' B r' L') (g : Gro B r w w') (ha : Anew w r r') : Tw w' B Bx r' rx L' Lx := by
  refine ⟨hw, h.b.keep g h.n1.symm h.n2 h.n3 (fun k hk => h.n4 k hk), h.n1, fun e => ?_, h.n3, fun k hk e => ?_⟩
  · rcases ha _ e with e2 | e2
    · exact h.n2 e2
    · have := h.b.lt.1; omega
  · rcases ha _ hk with e2 | e2
    · exact h.n4 k e2 e
    · have := h.b.lt.2 k e; omega
theorem Tw.right {w w' : World} {B Bx : Nat} {r rx r' : Option Nat} {L L' Lx : List Bool} (h : Tw w B Bx r rx L Lx) (hw : Xr w' Bx r' L') (g : Gro Bx rx w w') (ha : Anew w rx r') : Tw w' B Bx r r' L L' := by
  refine ⟨h.a.keep g h.n1 h.n3 h.n2 (fun k hk e => h.n4 k e hk), hw, h.n1, h.n2, fun e => ?_, fun k hk e => ?_⟩
  · rcases ha _ e with e2 | e2
    · exact h.n3 e2
    · have := h.a.lt.1; omega
  · rcases ha _ e with e2 | e2
    · exact h.n4 k hk e2
    · have := h.a.lt.2 k hk; omega
theorem gro_of_below {p : Nat} {w w' : World} (h : Below w.heap.size w w') : Gro p none w w' := ⟨h.os, h.tape, h.output, h.size, fun k hk _ _ => h.block k hk⟩
theorem Xr.below {w w' : World} {B : Nat} {r : Option Nat} {L : List Bool} (h : Xr w B r L) (hb : Below w.heap.size w w') : Xr w' B r L := by
  obtain ⟨⟨v, hB, hown, hr⟩, hne⟩ := h
  exact ⟨⟨v, by rw [hb.block B (block_lt_of_cell (two_cells hB).1)]; exact hB, own_of_same hown (fun k hk => hb.block k (hown.lt k hk).2), hr⟩, hne⟩
theorem Tw.below {w w' : World} {B Bx : Nat} {r rx : Option Nat} {L Lx : List Bool} (h : Tw w B Bx r rx L Lx) (hb : Below w.heap.size w w') : Tw w' B Bx r rx L Lx :=
  ⟨h.a.below hb (Nat.le_refl _), h.b.below hb, h.n1, h.n2, h.n3, h.n4⟩

/-- Only two blocks and two rows of what was there may have turned. -/
structure Gr2 (p q : Nat) (r s : Option Nat) (w w' : World) : Prop where
  os : w'.os = w.os
  tape : w'.tape = w.tape
  output : w'.output = w.output
  size : w.heap.size ≤ w'.heap.size
  block : ∀ k, k < w.heap.size → k ≠ p → k ≠ q → some k ≠ r → some k ≠ s → w'.heap[k]? = w.heap[k]?
theorem gr2_of {p q : Nat} {r s : Option Nat} {w w1 w2 w3 : World} (h0 : Below w.heap.size w w1) (h1 : Gro p r w1 w2) (h2 : Gro q s w2 w3) : Gr2 p q r s w w3 :=
  ⟨h2.os.trans (h1.os.trans h0.os), h2.tape.trans (h1.tape.trans h0.tape), h2.output.trans (h1.output.trans h0.output), Nat.le_trans h0.size (Nat.le_trans h1.size h2.size), fun k hk a b c d =>
    (h2.block k (Nat.lt_of_lt_of_le hk (Nat.le_trans h0.size h1.size)) b d).trans ((h1.block k (Nat.lt_of_lt_of_le hk h0.size) a c).trans (h0.block k hk))⟩
theorem gr2_below {p q : Nat} {r s : Option Nat} {w w1 : World} (h0 : Below w.heap.size w w1) : Gr2 p q r s w w1 := ⟨h0.os, h0.tape, h0.output, h0.size, fun k hk _ _ _ _ => h0.block k hk⟩
theorem Anew.back {w w1 : World} {r r' : Option Nat} (h : Anew w1 r r') (hs : w.heap.size ≤ w1.heap.size) : Anew w r r' := fun k hk => (h k hk).imp id (fun h => Nat.le_trans hs h)

/-- The copy of a call, behind what left its block. -/
theorem copy_at {w1 w2 : World} {b : Nat} {x : Opv} {p : Nat} {r : Option Nat} (hb : w1.heap[b]? = some (.cells #[.int .u8 (x.k : Int), .int .u64 (x.v : Int), .int .i64 x.n] 79 (0, 0))) (g : Gro p r w1 w2) (h1 : b ≠ p) (h2 : r ≠ some b) :
    w2.heap[b]? = some (.cells #[.int .u8 (x.k : Int), .int .u64 (x.v : Int), .int .i64 x.n] 79 (0, 0)) := by
  rw [g.block b ?_ h1 (fun e => h2 e.symm)]
  · exact hb
  · rcases Nat.lt_or_ge b w1.heap.size with h | h
    · exact h
    · rw [Array.getElem?_eq_none h] at hb; cases hb
theorem copy_three {w : World} {b : Nat} {x : Opv} (hb : w.heap[b]? = some (.cells #[.int .u8 (x.k : Int), .int .u64 (x.v : Int), .int .i64 x.n] 79 (0, 0))) :
    w.cell? ⟨b, 1, none⟩ = some (.int .u64 (x.v : Int)) ∧ w.cell? ⟨b, 2, none⟩ = some (.int .i64 x.n) :=
  ⟨by rw [cell_of_row _ _ _ _ _ _ hb]; rfl, by rw [cell_of_row _ _ _ _ _ _ hb]; rfl⟩

theorem odd_of2 (v : Nat) : (((v : Int) % 2) == 1) = decide (v % 2 = 1) := by
  by_cases h : v % 2 = 1
  · have : (v : Int) % 2 = 1 := by omega
    simp [h, this]
  · have : (v : Int) % 2 = 0 := by omega
    simp [h, this]
/-- The bits that so wide a put puts; its error. -/
def wide (v : Nat) (z : Int) : List Bool := if 0 ≤ z ∧ z ≤ 64 then Bt.nb v z.toNat else []
def wideE (z : Int) : Int := if 0 ≤ z ∧ z ≤ 64 then 0 else 1
theorem bits_n (w : World) (B : Nat) (r : Option Nat) (L : List Bool) (v : Nat) (z : Int) (h : Wr w B r L) (hL : L.length < 1099511626000) (hv : v < 18446744073709551616) :
    Calls Try.prog 24 #[.pointer (some ⟨B, 0, none⟩), .int .u64 v, .int .i64 z] w fun e w' => e = .returned (.int .u16 (wideE z)) ∧ ∃ r', Wr w' B r' (L ++ wide v z) ∧ Gro B r w w' ∧ Anew w r r' := by
  unfold wide wideE
  by_cases hz : 0 ≤ z ∧ z ≤ 64
  · obtain ⟨m, rfl⟩ := Int.eq_ofNat_of_zero_le hz.1
    rw [if_pos hz, if_pos hz]
    exact bits_any w B r L v m h (by omega) hv (by omega)
  · rw [if_neg hz, if_neg hz]
    refine (bits_bad w B v z (by omega)).mono ?_
    rintro e w' ⟨rfl, rfl⟩
    exact ⟨rfl, r, by rw [List.append_nil]; exact h, Gro.refl _ _ _, Anew.refl _ _⟩
theorem xbits_n (w : World) (B : Nat) (r : Option Nat) (L : List Bool) (v : Nat) (z : Int) (h : Xr w B r L) (hL : L.length < 1099511626000) (hv : v < 18446744073709551616) :
    Calls Try.prog 53 #[.pointer (some ⟨B, 0, none⟩), .int .u64 v, .int .i64 z] w fun e w' => e = .returned (.int .u16 (wideE z)) ∧ ∃ r', Xr w' B r' (L ++ wide v z) ∧ Gro B r w w' ∧ Anew w r r' := by
  unfold wide wideE
  by_cases hz : 0 ≤ z ∧ z ≤ 64
  · obtain ⟨m, rfl⟩ := Int.eq_ofNat_of_zero_le hz.1
    rw [if_pos hz, if_pos hz]
    exact xbits_any w B r L v m h (by omega) hv (by omega)
  · rw [if_neg hz, if_neg hz]
    refine (xbits_bad w B v z (by omega)).mono ?_
    rintro e w' ⟨rfl, rfl⟩
    exact ⟨rfl, r, by rw [List.append_nil]; exact h, Gro.refl _ _ _, Anew.refl _ _⟩
/-- What a call of both leaves. -/
def Puts (w : World) (B Bx : Nat) (r rx : Option Nat) (L : List Bool) (e : Ending) (w' : World) : Prop :=
  e = .returned (.bool true) ∧ ∃ r' rx', Tw w' B Bx r' rx' L L ∧ Gr2 B Bx r rx w w' ∧ Anew w r r' ∧ Anew w rx rx'

set_option maxHeartbeats 1000000 in
set_option maxRecDepth 100000 in
theorem puts_any (w : World) (B Bx : Nat) (r rx : Option Nat) (L : List Bool) (x : Opv) (h : Tw w B Bx r rx L L) (hL : L.length < 1099511626000) (hv0 : x.v < 18446744073709551616) (hk0 : x.k < 256) :
    Calls Try.prog 19 #[.pointer (some ⟨B, 0, none⟩), .pointer (some ⟨Bx, 0, none⟩), .agg #[.int .u8 (x.k : Int), .int .u64 (x.v : Int), .int .i64 x.n]] w (Puts w B Bx r rx (L ++ opBits x)) := by
  have hB := h.a.lt
  have hX := h.b.lt
  have hcp : (w.alloc (.cells #[.int .u8 (x.k : Int), .int .u64 (x.v : Int), .int .i64 x.n] 79)).heap[w.heap.size]? = some (.cells #[.int .u8 (x.k : Int), .int .u64 (x.v : Int), .int .i64 x.n] 79 (0, 0)) := heap_alloc_new _ _
  have hbel : Below w.heap.size w (w.alloc (.cells #[.int .u8 (x.k : Int), .int .u64 (x.v : Int), .int .i64 x.n] 79)) := (Below.refl _ _).alloc (Nat.le_refl _) _
  have hT1 := h.below hbel
  have hq1 : r ≠ some w.heap.size := fun e => by have := hB.2 _ e; omega
  have hq2 : rx ≠ some w.heap.size := fun e => by have := hX.2 _ e; omega
  have hodd := odd_of2 x.v
  have HT := Lib.hid hT1
  have HCP := Lib.hid hcp
  have HBEL := Lib.hid hbel
  have hkk : x.k % 4 = 0 ∨ x.k % 4 = 1 ∨ x.k % 4 = 2 ∨ x.k % 4 = 3 := by omega
  clear h hcp hbel hT1
  rcases hkk with hkk | hkk | hkk | hkk
  · have hki : (x.k : Int) % 4 = 0 := by omega
    have hob : opBits x = [decide (x.v % 2 = 1)] := by unfold opBits; rw [if_pos hkk]
    rw [hob]
    clear hob
    have HC := Lib.hid (bit_any (w.alloc (.cells #[.int .u8 (x.k : Int), .int .u64 (x.v : Int), .int .i64 x.n] 79)) B r L (decide (x.v % 2 = 1)) HT.out.a (by omega))
    go_enter Try.func19, Try.ntmps19
    go_wp2_with (first
      | (go_at_call 23; refine Calls.mono HC.out ?_; rintro e w1 ⟨rfl, r1, hW1, hG1, hA1⟩; have HT2 := Lib.hid (HT.out.left hW1 hG1 hA1); have hcp1 := copy_at HCP.out hG1 (by omega) hq1; obtain ⟨y1, y2⟩ := copy_three hcp1; have HG1 := Lib.hid hG1; have HA1 := Lib.hid hA1; have HC2 := Lib.hid (xbit_any w1 Bx rx L (decide (x.v % 2 = 1)) HT2.out.b (by omega)); clear hW1 hG1 hA1 hcp1)
      | (go_at_call 52; refine Calls.mono HC2.out ?_; rintro e w2 ⟨rfl, r2, hX2, hG2, hA2⟩))
    go_ret
    exact ⟨rfl, r1, r2, HT2.out.right hX2 hG2 hA2, gr2_of HBEL.out HG1.out hG2, Anew.back HA1.out HBEL.out.size, Anew.back hA2 (Nat.le_trans HBEL.out.size HG1.out.size)⟩
  · have hki : (x.k : Int) % 4 = 1 := by omega
    have hob : opBits x = wide x.v x.n := by unfold opBits; rw [if_neg (by omega), if_pos hkk]; rfl
    rw [hob]
    clear hob
    have hT3 : Tw (w.alloc (.cells #[.int .u8 (x.k : Int), .int .u64 (x.v : Int), .int .i64 x.n] 79)).drew B Bx r rx L L := HT.out.below ⟨rfl, rfl, rfl, Nat.le_refl _, fun _ _ => rfl⟩
    have HT3 := Lib.hid hT3
    have HC := Lib.hid (bits_n (w.alloc (.cells #[.int .u8 (x.k : Int), .int .u64 (x.v : Int), .int .i64 x.n] 79)).drew B r L x.v x.n HT3.out.a (by omega) hv0)
    have hcp3 : (w.alloc (.cells #[.int .u8 (x.k : Int), .int .u64 (x.v : Int), .int .i64 x.n] 79)).drew.heap[w.heap.size]? = some (.cells #[.int .u8 (x.k : Int), .int .u64 (x.v : Int), .int .i64 x.n] 79 (0, 0)) := HCP.out
    obtain ⟨s1, s2⟩ := copy_three hcp3
    have HCP3 := Lib.hid hcp3
    clear hT3 hcp3
    generalize he : wideE x.n = ev at *
    go_enter Try.func19, Try.ntmps19
    go_wp2
    go_region_held3 (fun w' => w'.cell? ⟨w.heap.size, 1, none⟩ = some (.int .u64 (x.v : Int)) ∧ w'.cell? ⟨w.heap.size, 2, none⟩ = some (.int .i64 x.n)) (first | assumption | exact ⟨by assumption, by assumption⟩) (first
      | (go_at_call 24; refine Calls.mono HC.out ?_; rintro e w1 ⟨rfl, r1, hW1, hG1, hA1⟩; have HT2 := Lib.hid (HT3.out.left hW1 hG1 hA1); have hcp1 := copy_at HCP3.out hG1 (by omega) hq1; obtain ⟨y1, y2⟩ := copy_three hcp1; have HCP1 := Lib.hid hcp1; have HG1 := Lib.hid hG1; have HA1 := Lib.hid hA1; have HC2 := Lib.hid (xbits_n w1 Bx rx L x.v x.n HT2.out.b (by omega) hv0); clear hW1 hG1 hA1 hcp1; simp only [he] at HC2)
      | (go_at_call 53; refine Calls.mono HC2.out ?_; rintro e w2 ⟨rfl, r2, hX2, hG2, hA2⟩; obtain ⟨z1, z2⟩ := copy_three (copy_at HCP1.out hG2 (by omega) hq2)))
    all_goals go_wp2
    go_ret
    exact ⟨rfl, r1, r2, HT2.out.right hX2 hG2 hA2, gr2_of (w1 := (w.alloc (.cells #[.int .u8 (x.k : Int), .int .u64 (x.v : Int), .int .i64 x.n] 79)).drew) ⟨HBEL.out.os, HBEL.out.tape, HBEL.out.output, HBEL.out.size, HBEL.out.block⟩ HG1.out hG2, Anew.back HA1.out HBEL.out.size, Anew.back hA2 (Nat.le_trans HBEL.out.size HG1.out.size)⟩
  · have hki : (x.k : Int) % 4 = 2 := by omega
    have hob : opBits x = Bt.vb x.v := by unfold opBits; rw [if_neg (by omega), if_neg (by omega), if_pos hkk]
    rw [hob]
    clear hob
    have HC := Lib.hid (varint_any (w.alloc (.cells #[.int .u8 (x.k : Int), .int .u64 (x.v : Int), .int .i64 x.n] 79)) B r L x.v HT.out.a (by omega) hv0)
    go_enter Try.func19, Try.ntmps19
    go_wp2_with (first
      | (go_at_call 15; refine Calls.mono HC.out ?_; rintro e w1 ⟨rfl, r1, hW1, hG1, hA1⟩; have HT2 := Lib.hid (HT.out.left hW1 hG1 hA1); have hcp1 := copy_at HCP.out hG1 (by omega) hq1; obtain ⟨y1, y2⟩ := copy_three hcp1; have HG1 := Lib.hid hG1; have HA1 := Lib.hid hA1; have HC2 := Lib.hid (xvarint_any w1 Bx rx L x.v HT2.out.b (by omega) hv0); clear hW1 hG1 hA1 hcp1)
      | (go_at_call 54; refine Calls.mono HC2.out ?_; rintro e w2 ⟨rfl, r2, hX2, hG2, hA2⟩))
    go_ret
    exact ⟨rfl, r1, r2, HT2.out.right hX2 hG2 hA2, gr2_of HBEL.out HG1.out hG2, Anew.back HA1.out HBEL.out.size, Anew.back hA2 (Nat.le_trans HBEL.out.size HG1.out.size)⟩
  · have hki : (x.k : Int) % 4 = 3 := by omega
    have hob : opBits x = Bt.vb (zz (wrap64 (x.v : Int))) := by unfold opBits; rw [if_neg (by omega), if_neg (by omega), if_neg (by omega)]
    rw [hob]
    clear hob
    have HC := Lib.hid (signed_any (w.alloc (.cells #[.int .u8 (x.k : Int), .int .u64 (x.v : Int), .int .i64 x.n] 79)) B r L (wrap64 (x.v : Int)) HT.out.a (by omega) (sv_in _).1 (sv_in _).2)
    go_enter Try.func19, Try.ntmps19
    go_wp2_with (first
      | (go_at_call 25; refine Calls.mono HC.out ?_; rintro e w1 ⟨rfl, r1, hW1, hG1, hA1⟩; have HT2 := Lib.hid (HT.out.left hW1 hG1 hA1); have hcp1 := copy_at HCP.out hG1 (by omega) hq1; obtain ⟨y1, y2⟩ := copy_three hcp1; have HG1 := Lib.hid hG1; have HA1 := Lib.hid hA1; have HC2 := Lib.hid (xsigned_any w1 Bx rx L (wrap64 (x.v : Int)) HT2.out.b (by omega) (sv_in _).1 (sv_in _).2); clear hW1 hG1 hA1 hcp1)
      | (go_at_call 55; refine Calls.mono HC2.out ?_; rintro e w2 ⟨rfl, r2, hX2, hG2, hA2⟩))
    go_ret
    exact ⟨rfl, r1, r2, HT2.out.right hX2 hG2 hA2, gr2_of HBEL.out HG1.out hG2, Anew.back HA1.out HBEL.out.size, Anew.back hA2 (Nat.le_trans HBEL.out.size HG1.out.size)⟩
end Go.Proofs.Ytnplcfgjidolbaa
end
section
namespace Go.Proofs.Ytnplcfgjidolbaa
open Go.RowKit

/-- What may have turned: the rows' blocks, and what is new. -/
structure Oth (vs : List Value) (w w' : World) : Prop where
  os : w'.os = w.os
  tape : w'.tape = w.tape
  output : w'.output = w.output
  size : w.heap.size ≤ w'.heap.size
  block : ∀ k, k < w.heap.size → (∀ v ∈ vs, v.ownBlock ≠ some k) → w'.heap[k]? = w.heap[k]?
theorem Oth.refl (vs : List Value) (w : World) : Oth vs w w := ⟨rfl, rfl, rfl, Nat.le_refl _, fun _ _ _ => rfl⟩
theorem Oth.below {vs : List Value} {w w' : World} {B : Nat} (h : Oth vs w w') (hB : B ≤ w.heap.size) (hv : ∀ v ∈ vs, ∀ k, v.ownBlock = some k → B ≤ k) : Below B w w' :=
  ⟨h.os, h.tape, h.output, h.size, fun k hk => h.block k (by omega) (fun v hm e => by have := hv v hm k e; omega)⟩

/-- Rows that lie apart. -/
def Apt (vs : List Value) : Prop := ∀ (i j : Nat) (u v : Value), vs[i]? = some u → vs[j]? = some v → i ≠ j → ∀ k, u.ownBlock = some k → v.ownBlock ≠ some k

/-- The list of rows, and of each row what F says. -/
structure Bk (E e : TypeId) (w0 w : World) (base : Nat) (vb : Value) (vs : List Value) (ln : Nat → Nat) (F : Nat → List Value → Prop) : Prop where
  row : w.ownsRow base E 1 vb vs.length vs
  rows : ∀ (j : Nat) (v : Value), vs[j]? = some v → ∃ xs, w.ownsRow base e 1 v (ln j) xs ∧ F j xs
  oth : Oth vs w0 w
  lb : ∀ k, vb.ownBlock = some k → k < w0.heap.size
  lv : ∀ (j : Nat) (v : Value), vs[j]? = some v → ∀ k, v.ownBlock = some k → k < w0.heap.size

section
variable {E e : TypeId} {w0 w w' : World} {base : Nat} {vb : Value} {vs : List Value} {ln : Nat → Nat} {F F' : Nat → List Value → Prop}
theorem Bk.weak (h : Bk E e w0 w base vb vs ln F) (hF : ∀ j xs, xs.length = ln j → F j xs → F' j xs) : Bk E e w0 w base vb vs ln F' :=
  ⟨h.row, fun j v hv => by obtain ⟨xs, h1, h2⟩ := h.rows j v hv; exact ⟨xs, h1, hF j xs (by simpa using h1.1) h2⟩, h.oth, h.lb, h.lv⟩
/-- A change of one row's block, or of a new one. -/
theorem Bk.turn (hE : E ≠ e) (h : Bk E e w0 w base vb vs ln F) {r : Option Nat} (g : w.grownBy w' r) (hr : ∀ k, r = some k → (∃ v ∈ vs, v.ownBlock = some k) ∨ w0.heap.size ≤ k)
    (hn : ∀ (j : Nat) (v : Value), vs[j]? = some v → (v.ownBlock = none ∨ v.ownBlock ≠ r) ∨ ∃ xs, w'.ownsRow base e 1 v (ln j) xs ∧ F j xs) : Bk E e w0 w' base vb vs ln F := by
  refine ⟨?_, fun j v hv => ?_, ?_, h.lb, h.lv⟩
  · refine h.row.kept g ?_
    rcases hvb : vb.ownBlock with _ | k
    · exact .inl rfl
    · refine .inr (fun e1 => ?_)
      rcases hr k e1.symm with ⟨v, hm, hk⟩ | hk
      · obtain ⟨j, hj⟩ := List.getElem?_of_mem hm
        obtain ⟨xs, h1, _⟩ := h.rows j v hj
        exact own_apart h.row h1 hE k hvb hk
      · have := h.lb k hvb; omega
  · rcases hn j v hv with hk | hk
    · obtain ⟨xs, h1, h2⟩ := h.rows j v hv
      exact ⟨xs, h1.kept g hk, h2⟩
    · exact hk
  · refine ⟨g.os.trans h.oth.os, g.tape.trans h.oth.tape, g.output.trans h.oth.output, Nat.le_trans h.oth.size g.size, fun k hk hv => ?_⟩
    rw [g.block k (Nat.lt_of_lt_of_le hk h.oth.size) (fun e1 => ?_)]
    · exact h.oth.block k hk hv
    · rcases hr k e1.symm with ⟨v, hm, hk2⟩ | hk2
      · exact hv v hm hk2
      · omega
theorem Bk.fresh (hE : E ≠ e) (h : Bk E e w0 w base vb vs ln F) {r : Option Nat} (g : w.grownBy w' r) (hr : ∀ k, r = some k → w0.heap.size ≤ k) : Bk E e w0 w' base vb vs ln F :=
  h.turn hE g (fun k hk => .inr (hr k hk)) (fun j v hv => .inl (by
    rcases hvb : v.ownBlock with _ | k
    · exact .inl rfl
    · refine .inr (fun e1 => ?_)
      have := hr k e1.symm
      have := h.lv j v hv k hvb
      omega))
/-- A store into the row i. -/
theorem Bk.store (hE : E ≠ e) (hap : Apt vs) (h : Bk E e w0 w base vb vs ln F) {i g n cap k : Nat} {u : Value} (hi : vs[i]? = some (.slice (some ⟨g, 0, none⟩) n cap)) (hF : ∀ xs, F i xs → xs.length = ln i → F' i (xs.set k u)) (hF2 : ∀ j xs, j ≠ i → F j xs → F' j xs) :
    Bk E e w0 (w.setCell ⟨g, k, none⟩ u) base vb vs ln F' := by
  obtain ⟨xs, h1, h2⟩ := h.rows i _ hi
  have hn : n = ln i := by
    rcases h1.2 with ⟨h3, _⟩ | ⟨_, _, _, h3, _⟩
    · cases h3
    · simp at h3; exact h3.2.1
  subst hn
  have hs := h1.stored k u
  have h3 : Bk E e w0 w base vb vs ln (fun j xs => (j ≠ i → F' j xs) ∧ (j = i → F j xs)) := h.weak (fun j xs _ hx => ⟨fun hj => hF2 j xs hj hx, fun _ => hx⟩)
  have h4 : Bk E e w0 (w.setCell ⟨g, k, none⟩ u) base vb vs ln (fun j xs => F' j xs ∨ (j = i ∧ False)) := by
    refine ⟨?_, fun j v hv => ?_, ?_, h.lb, h.lv⟩
    · refine h.row.kept hs.2 ?_
      rcases hvb : vb.ownBlock with _ | k'
      · exact .inl rfl
      · exact .inr (fun e1 => own_apart h.row h1 hE k' hvb e1.symm)
    · by_cases hj : j = i
      · subst hj
        rw [hi] at hv
        injection hv with hv
        subst hv
        exact ⟨_, hs.1, .inl (hF xs h2 (by simpa using h1.1))⟩
      · obtain ⟨ys, k1, k2⟩ := h.rows j v hv
        refine ⟨ys, k1.kept hs.2 ?_, .inl (hF2 j ys hj k2)⟩
        rcases hvb : v.ownBlock with _ | k'
        · exact .inl rfl
        · exact .inr (fun e1 => hap j i v _ hv hi hj k' hvb e1.symm)
    · refine ⟨hs.2.os.trans h.oth.os, hs.2.tape.trans h.oth.tape, hs.2.output.trans h.oth.output, Nat.le_trans h.oth.size hs.2.size, fun k' hk hv => ?_⟩
      rw [hs.2.block k' (Nat.lt_of_lt_of_le hk h.oth.size) (fun e1 => hv _ (List.mem_of_getElem? hi) e1.symm)]
      exact h.oth.block k' hk hv
  exact h4.weak (fun j xs _ hx => by rcases hx with hx | ⟨_, hx⟩; exact hx; exact hx.elim)
end

/-- The marks of a row, and those behind it. -/
def marks (p : Nat → Nat → Value) (i n : Nat) : List Value := (List.range n).map (p i)
theorem marks_len (p : Nat → Nat → Value) (i n : Nat) : (marks p i n).length = n := by simp [marks]
theorem marks_get (p : Nat → Nat → Value) (i n k : Nat) (h : k < n) : (marks p i n)[k]? = some (p i k) := by simp [marks, h]
theorem marks_succ (p : Nat → Nat → Value) (i n : Nat) : marks p i (n + 1) = marks p i n ++ [p i n] := by simp [marks, List.range_succ]
/-- Rows ahead of i are marked, the row i up to k. -/
def upTo (p : Nat → Nat → Value) (ln : Nat → Nat) (i k j : Nat) (xs : List Value) : Prop := (j < i → xs = marks p j (ln j)) ∧ (j = i → xs.take k = marks p i k)
theorem upTo_zero (p : Nat → Nat → Value) (ln : Nat → Nat) (j : Nat) (xs : List Value) : upTo p ln 0 0 j xs := ⟨fun h => absurd h (by omega), fun _ => by simp [marks]⟩
theorem upTo_next {p : Nat → Nat → Value} {ln : Nat → Nat} {i j : Nat} {xs : List Value} (h : upTo p ln i (ln i) j xs) (hl : xs.length = ln j) : upTo p ln (i + 1) 0 j xs := by
  refine ⟨fun hj => ?_, fun _ => by simp [marks]⟩
  by_cases e : j = i
  · subst e
    have := h.2 rfl
    rwa [List.take_of_length_le (by omega)] at this
  · exact h.1 (by omega)
theorem upTo_set {p : Nat → Nat → Value} {ln : Nat → Nat} {i k : Nat} {xs : List Value} (h : upTo p ln i k i xs) (hl : xs.length = ln i) (hk : k < ln i) : upTo p ln i (k + 1) i (xs.set k (p i k)) := by
  refine ⟨fun hj => absurd hj (by omega), fun _ => ?_⟩
  have h2 := h.2 rfl
  rw [marks_succ, ← h2, List.take_succ_eq_append_getElem (by simp; omega)]
  simp [List.take_set_of_le]
theorem upTo_other {p : Nat → Nat → Value} {ln : Nat → Nat} {i k k' j : Nat} {xs : List Value} (h : upTo p ln i k j xs) (hj : j ≠ i) : upTo p ln i k' j xs := ⟨h.1, fun e => absurd e hj⟩

/-- The lengthened rows. -/
structure Lg (E e : TypeId) (w0 w : World) (base : Nat) (vs : List Value) (ln : Nat → Nat) (p t : Nat → Nat → Value) (lv : Value) (i : Nat) (ys : List Value) : Prop where
  row : w.ownsRow w0.heap.size E 1 lv i ys
  rows : ∀ (j : Nat) (y v : Value), ys[j]? = some y → vs[j]? = some v → w.ownsRow base e 1 y (ln j + 16) (marks p j (ln j) ++ marks t j 16) ∧ (y.ownBlock = v.ownBlock ∨ ∀ k, y.ownBlock = some k → w0.heap.size ≤ k)

section
variable {E e : TypeId} {w0 w w' : World} {base : Nat} {vb : Value} {vs ys : List Value} {ln : Nat → Nat} {F F' : Nat → List Value → Prop} {p t : Nat → Nat → Value} {lv : Value} {i : Nat}
theorem Lg.nil (w0 w : World) : Lg E e w0 w base vs ln p t (.slice none 0 0) 0 [] := ⟨World.ownsRow_nil _ _ _ _, fun j y v h => by simp at h⟩
theorem Lg.len (h : Lg E e w0 w base vs ln p t lv i ys) : ys.length = i := by simpa using h.row.1
/-- A change of a block that none of them has. -/
theorem Lg.turn (h : Lg E e w0 w base vs ln p t lv i ys) {r : Option Nat} (g : w.grownBy w' r) (h1 : ∀ k, r = some k → lv.ownBlock ≠ some k) (h2 : ∀ y ∈ ys, ∀ k, r = some k → y.ownBlock ≠ some k) : Lg E e w0 w' base vs ln p t lv i ys := by
  have key : ∀ v : Value, (∀ k, r = some k → v.ownBlock ≠ some k) → v.ownBlock = none ∨ v.ownBlock ≠ r := fun v hv => by
    rcases hvb : v.ownBlock with _ | k
    · exact .inl rfl
    · exact .inr (fun e1 => hv k e1.symm hvb)
  exact ⟨h.row.kept g (key _ h1), fun j y v hy hv => by
    obtain ⟨k1, k2⟩ := h.rows j y v hy hv
    exact ⟨k1.kept g (key _ (h2 y (List.mem_of_getElem? hy))), k2⟩⟩
/-- One more. -/
theorem Lg.snoc (h : Lg E e w0 w base vs ln p t lv i ys) (hE : E ≠ e) {w2 : World} {lv' x : Value} (hrow : w2.ownsRow w0.heap.size E 1 lv' (i + 1) (ys ++ [x])) (g : w.grownBy w2 lv.ownBlock) (hx : w.ownsRow base e 1 x (ln i + 16) (marks p i (ln i) ++ marks t i 16))
    {v : Value} (hv : vs[i]? = some v) (hxb : x.ownBlock = v.ownBlock ∨ ∀ k, x.ownBlock = some k → w0.heap.size ≤ k) : Lg E e w0 w2 base vs ln p t lv' (i + 1) (ys ++ [x]) := by
  have hl := h.len
  have key : ∀ (y : Value) n zs, w.ownsRow base e 1 y n zs → w2.ownsRow base e 1 y n zs := fun y n zs hy => hy.kept g (by
    rcases hvb : y.ownBlock with _ | k
    · exact .inl rfl
    · exact .inr (fun e1 => own_apart h.row hy hE k e1.symm hvb))
  refine ⟨hrow, fun j y u hy hu => ?_⟩
  by_cases hj : j < ys.length
  · rw [List.getElem?_append_left hj] at hy
    obtain ⟨k1, k2⟩ := h.rows j y u hy hu
    exact ⟨key _ _ _ k1, k2⟩
  · rw [List.getElem?_append_right (by omega)] at hy
    have hj2 : j = i := by
      rcases Nat.eq_zero_or_pos (j - ys.length) with h0 | h0
      · omega
      · rw [List.getElem?_eq_none (by simp; omega)] at hy; cases hy
    subst hj2
    rw [hl, Nat.sub_self] at hy
    simp at hy
    subst hy
    rw [hv] at hu
    injection hu with hu
    subst hu
    exact ⟨key _ _ _ hx, hxb⟩
end

theorem grown_alloc {w w1 : World} {o : Obj} {r : Option Nat} (g : (w.alloc o).grownBy w1 r) : w.grownBy w1 r :=
  ⟨g.os, g.tape, g.output, by have := g.size; simp at this; omega, fun k hk hr => (g.block k (by simp; omega) hr).trans (Below.heap_alloc _ _ _ hk)⟩
theorem Stay.grown {w w' : World} {v : Value} {n g c : Nat} (h : Stay w w' v n g c) : w.grownBy w' v.ownBlock := by
  rcases h with ⟨rfl, h⟩ | ⟨_, h⟩
  · exact h
  · exact ⟨h.os, h.tape, h.output, h.size, fun k hk _ => h.block k hk (by simp)⟩

/-- One more element behind a row: in its own room, or in a new block. -/
theorem stay_step {E e : TypeId} {w0 wr w1 : World} {o : Obj} {base : Nat} {vb v x lv u : Value} {vs ys : List Value} {ln : Nat → Nat} {p t : Nat → Nat → Value} {i m g cap Wi : Nat} (hE : E ≠ e) (hap : Apt vs)
    (hbk : Bk E e w0 wr base vb vs ln (fun j xs => xs = marks p j (ln j))) (hlg : Lg E e w0 wr base vs ln p t lv i ys) (hv : vs[i]? = some v)
    (hx : wr.ownsRow base e 1 x (ln i + m) (marks p i (ln i) ++ marks t i m)) (hxb : x.ownBlock = v.ownBlock ∨ ∀ k, x.ownBlock = some k → Wi ≤ k) (hy : ∀ y ∈ ys, ∀ k, y.ownBlock = some k → k < Wi) (hW : Wi ≤ wr.heap.size) (hW0 : w0.heap.size ≤ Wi)
    (hown : w1.ownsRow base e 1 (.slice (some ⟨g, 0, none⟩) (ln i + m + 1) cap) (ln i + m + 1) ((marks p i (ln i) ++ marks t i m) ++ [u])) (hst : Stay (wr.alloc o) w1 x (ln i + m) g cap) :
    Bk E e w0 w1 base vb vs ln (fun j xs => xs = marks p j (ln j)) ∧ Lg E e w0 w1 base vs ln p t lv i ys ∧ ((Value.slice (some ⟨g, 0, none⟩) (ln i + m + 1) cap).ownBlock = v.ownBlock ∨ ∀ k, (Value.slice (some ⟨g, 0, none⟩) (ln i + m + 1) cap).ownBlock = some k → Wi ≤ k) ∧ Wi ≤ w1.heap.size := by
  have hgr := grown_alloc hst.grown
  refine ⟨?_, ?_, ?_, Nat.le_trans hW hgr.size⟩
  · rcases hst with ⟨rfl, hs⟩ | ⟨hg, hs⟩
    · have hs' := grown_alloc hs
      rcases hxb with hxb | hxb
      · refine hbk.turn hE hs' (fun k hk => .inl ⟨v, List.mem_of_getElem? hv, by rw [← hxb, ← hk]; rfl⟩) (fun j v' hv' => ?_)
        by_cases hj : j = i
        · subst hj
          rw [hv] at hv'
          injection hv' with hv'
          subst hv'
          obtain ⟨xs, k1, rfl⟩ := hbk.rows j v hv
          right
          rcases k1.2 with ⟨rfl, _⟩ | ⟨g1, c1, cur1, rfl, _⟩
          · cases hxb
          · have hgg : g = g1 := by injection hxb
            subst hgg
            have hc := own_cap hx k1
            subst hc
            refine ⟨_, own_prefix (m := m + 1) (by rw [← Nat.add_assoc]; exact hown), ?_⟩
            rw [List.append_assoc, List.take_append_of_le_length (by rw [marks_len]; exact Nat.le_refl _), List.take_of_length_le (by rw [marks_len]; exact Nat.le_refl _)]
        · left
          rcases hvb : v'.ownBlock with _ | k
          · exact .inl rfl
          · exact .inr (fun e1 => hap j i v' v hv' hv hj k hvb (by rw [← hxb, e1]; rfl))
      · exact hbk.fresh hE hs' (fun k hk => Nat.le_trans hW0 (hxb k hk))
    · exact hbk.fresh hE (grown_alloc hs) (fun k hk => by cases hk)
  · rcases hst with ⟨rfl, hs⟩ | ⟨hg, hs⟩
    · refine hlg.turn (grown_alloc hs) (fun k hk e1 => own_apart hlg.row hx hE k e1 hk) (fun y hym k hk e1 => ?_)
      rcases hxb with hxb | hxb
      · obtain ⟨j, hj⟩ := List.getElem?_of_mem hym
        have hjl : j < i := by
          have := (List.getElem?_eq_some_iff.1 hj).1
          have := hlg.len
          omega
        have hil : i < vs.length := (List.getElem?_eq_some_iff.1 hv).1
        have hvj : vs[j]? = some vs[j] := List.getElem?_eq_getElem (by omega)
        obtain ⟨_, k2⟩ := hlg.rows j y _ hj hvj
        rcases k2 with k2 | k2
        · exact hap j i _ v hvj hv (by omega) k (by rw [← k2]; exact e1) (by rw [← hxb]; exact hk)
        · have h1 := k2 k e1
          have h2 := hbk.lv i v hv k (by rw [← hxb]; exact hk)
          omega
      · have h1 := hy y hym k e1
        have h2 := hxb k hk
        omega
    · exact hlg.turn (grown_alloc hs) (fun k hk => by cases hk) (fun y _ k hk => by cases hk)
  · rcases hst with ⟨rfl, hs⟩ | ⟨hg, hs⟩
    · exact hxb
    · right
      intro k hk
      injection hk with hk
      have h1 : wr.heap.size ≤ g := by rw [hg]; simp
      have h2 : k = g := hk.symm
      omega
end Go.Proofs.Ytnplcfgjidolbaa
end
