import Derived.Test.YtepjpdhmjchakaaGreatDoorP1
import Derived.Test.YtepjpdhmjchakaaGreatDoorQ2
import Derived.Test.YtepjpdhmjchakaaGreatDoorP5
/- Bits, eight a byte, as the document packs them: plain. -/
namespace Go.Proofs.YtepjpdhmjchakaaGreatDoor.Bt

/-- The number of the k bits from i on, noughts behind the end. -/
def cv (L : List Bool) (i k : Nat) : Nat := val ((List.range k).map fun t => L.getD (i + t) false)
theorem cv_zero (L : List Bool) (i : Nat) : cv L i 0 = 0 := by simp [cv, val]
theorem cv_succ (L : List Bool) (i k : Nat) : cv L i (k + 1) = 2 * cv L i k + (L.getD (i + k) false).toNat := by
  unfold cv
  rw [List.range_succ, List.map_append, List.map_singleton, val_snoc]
theorem cv_lt (L : List Bool) (i k : Nat) : cv L i k < 2 ^ k := by
  have h := val_lt ((List.range k).map fun t => L.getD (i + t) false)
  simpa [cv] using h
theorem byte_val (y : UInt8) : val ((List.range 8).map fun t => y.toBitVec.getLsbD (7 - t)) = y.toNat := by
  have h : ∀ n : Fin 256, val ((List.range 8).map fun t => (BitVec.ofNat 8 n.val).getLsbD (7 - t)) = n.val := by decide +kernel
  have h2 := h ⟨y.toNat, y.toNat_lt⟩
  have e : BitVec.ofNat 8 y.toNat = y.toBitVec := by apply BitVec.eq_of_toNat_eq; simp
  rw [e] at h2
  exact h2
theorem cv_pack (L : List Bool) (c : Nat) (hc : c < (pack L).length) : cv L (8 * c) 8 = ((pack L)[c]).toNat := by
  rw [← byte_val]
  unfold cv
  congr 1
  apply List.map_congr_left
  intro t ht
  have ht8 : t < 8 := List.mem_range.1 ht
  rw [← pack_bit L (8 * c + t)]
  unfold mbit
  have e1 : (8 * c + t) / 8 = c := by omega
  have e2 : (8 * c + t) % 8 = t := by omega
  rw [e1, e2]
  simp [List.getD, hc]
theorem pack_take (L : List Bool) (c : Nat) (hc : c < (pack L).length) : (pack L).take (c + 1) = (pack L).take c ++ [UInt8.ofNat (cv L (8 * c) 8)] := by
  rw [List.take_succ_eq_append_getElem hc, cv_pack L c hc]
  simp
end Go.Proofs.YtepjpdhmjchakaaGreatDoor.Bt

/- The document's bits as bytes. -/
namespace Go.Proofs.YtepjpdhmjchakaaGreatDoor
open Go.RowKit

theorem fb_one (l : List Bool) : ∀ u ∈ l.map fb, u.oneCell' = true := by
  intro u hu
  obtain ⟨_, _, rfl⟩ := List.mem_map.1 hu
  rfl
theorem fb_nat (b : Bool) : fb b = .int .u8 ((b.toNat : Nat) : Int) := by cases b <;> rfl
theorem Xr.sl {w : World} {B : Nat} {r : Option Nat} {L : List Bool} (h : Xr w B r L) (hL : L.length < 1099511627776) :
    ∃ v, w.heap[B]? = some (.cells #[v, .int .i64 0] 141 (0, 0)) ∧ Sl 0 w.heap.size fb w v L := by
  obtain ⟨⟨v, hB, hown, _⟩, _⟩ := h
  exact ⟨v, hB, Sl.owns hown (by omega)⟩

set_option maxRecDepth 100000 in
theorem xbytes_any (w : World) (B : Nat) (r : Option Nat) (L : List Bool) (h : Xr w B r L) (hL : L.length < 1099511627776) :
    Calls Tryz.prog 79 #[.pointer (some ⟨B, 0, none⟩)] w fun e w' => ∃ v', e = .returned v' ∧ w'.ownsRow w.heap.size 5 1 v' (Bt.pack L).length ((Bt.pack L).map f8) ∧ Below w.heap.size w w' := by
  obtain ⟨v, hB, hs⟩ := h.sl hL
  obtain ⟨i0, hi0, hz0, hz1, hz2⟩ := info_parts info5
  have hBl : B < w.heap.size := block_lt_of_cell (two_cells hB).1
  have hpl := Bt.pack_len L
  obtain ⟨ao, cap, rfl, hsl⟩ := hs
  have HB := Lib.hid hB
  have HS := Lib.hid hsl
  have HP := Lib.hid hpl
  clear hB hsl h
  go_enter Tryz.func79, Tryz.ntmps79
  go_wp2
  go_loopw [3, 4] (fun o i wr => ∃ c : Nat, c ≤ (Bt.pack L).length ∧ i = .int .i64 ((8 * c : Nat) : Int) ∧ wr.ownsRow w.heap.size 5 1 o c (((Bt.pack L).take c).map f8) ∧ Below w.heap.size w wr) (fun _ i _ => 8 * (Bt.pack L).length - (intOf i).toNat)
  case atStart => exact ⟨0, Nat.zero_le _, rfl, by simpa using World.ownsRow_nil _ _ _ _, Below.refl _ _⟩
  case round =>
    obtain ⟨c, hc, rfl, hown, hbel⟩ := hrel
    have HO := Lib.hid hown
    have HBel := Lib.hid hbel
    have hsz := hbel.size
    obtain ⟨c0, c1, fz⟩ := two_cells (show wr.heap[B]? = _ from (hbel.block B hBl).trans HB.out)
    have HSL := Lib.hid (HS.out.below hbel (Nat.le_refl _))
    clear hown hbel
    by_cases hlt : 8 * c < L.length
    · have hcl : c < (Bt.pack L).length := by rw [HP.out]; omega
      go_wp2
      go_loopw [5, 6] (fun n k w' => ∃ j : Nat, j ≤ 8 ∧ k = .int .i64 j ∧ n = .int .i64 (Bt.cv L (8 * c) j : Nat) ∧ wr = w') (fun _ k _ => 8 - (intOf k).toNat)
      case atStart => exact ⟨0, by omega, rfl, by rw [Bt.cv_zero]; rfl, rfl⟩
      case round =>
        obtain ⟨j, hj, rfl, rfl, hw⟩ := hrel
        subst hw
        have hcv := Bt.cv_lt L (8 * c) j
        by_cases hj8 : j < 8
        · have hcv2 : Bt.cv L (8 * c) j < 256 := Nat.lt_of_lt_of_le hcv (Nat.pow_le_pow_right (by omega) hj)
          have hsucc := Bt.cv_succ L (8 * c) j
          by_cases hin : 8 * c + j < L.length
          · obtain ⟨b, off, rfl, _, _, hcell⟩ := HSL.out.cells (by intro e; subst e; simp at hin)
            have hcc := hcell (8 * c + j) hin
            rw [fb_nat] at hcc
            have hgd : L.getD (8 * c + j) false = L[8 * c + j] := by simp [List.getD, hin]
            rw [hgd] at hsucc
            have ht : L[8 * c + j].toNat ≤ 1 := by cases L[8 * c + j] <;> decide
            generalize L[8 * c + j].toNat = t at *
            generalize Bt.cv L (8 * c) j = y at *
            have HSU := Lib.hid hsucc
            have i1 : (0 : Int) ≤ ((8 * c + j : Nat) : Int) ∧ ((8 * c + j : Nat) : Int) < (L.length : Int) := by omega
            clear hsucc hcell hgd hcv
            go_wp2
            go_roundw
            case rel => exact ⟨j + 1, by omega, by push_cast; rfl, by rw [HSU.out]; push_cast; rfl, trivial⟩
            case measure => simp [intOf]; omega
          · have hgd : L.getD (8 * c + j) false = false := by simp [List.getD, hin]
            rw [hgd] at hsucc
            generalize Bt.cv L (8 * c) j = y at *
            have HSU := Lib.hid hsucc
            clear hsucc hgd hcv
            go_wp2
            go_roundw
            case rel => exact ⟨j + 1, by omega, by push_cast; rfl, by rw [HSU.out]; simp, trivial⟩
            case measure => simp [intOf]; omega
        · obtain rfl : j = 8 := by omega
          have hpt := Bt.pack_take L c hcl
          generalize Bt.cv L (8 * c) 8 = y at *
          have hy : y < 256 := hcv
          have HPT := Lib.hid hpt
          clear hpt hcv
          go_wp2_with (at_builtin; refine wpList_append_own _ rfl (.tmp 43) (.tmp 46) 24 rfl w.heap.size 5 i0 (.int .u8 0) 1 1 Tryz.underlying24 hi0 hz0 hz1 hz2 rfl (by decide) _ _ _ rfl (HO.out.alloc _) ⟨wr.heap.size, 0, none⟩ 1 1 [.int .u8 (y : Int)] rfl rfl (news_alloc wr [.int .u8 (y : Int)] 5) (by simp [Value.oneCell']) (by unfold maxLen; omega) (by omega) (by simp; omega) ?_; intro v1 w1 hown1 hgrow1 _; have HO1 := Lib.hid hown1; have HG1 := Lib.hid hgrow1; clear hown1 hgrow1)
          go_roundw
          case rel =>
            refine ⟨c + 1, by omega, by push_cast; rfl, ?_, ?_⟩
            · rw [HPT.out, List.map_append]
              have e : [UInt8.ofNat y].map f8 = [.int .u8 (y : Int)] := by
                simp [f8, W8]; omega
              rw [e]
              exact HO1.out
            · exact (HBel.out.alloc hsz _).grown HG1.out (by simp; omega) (own_row HO.out)
          case measure => simp [intOf]; omega
    · have e : c = (Bt.pack L).length := by have := HP.out; omega
      subst e
      go_wp2
      go_ret
      refine ⟨_, rfl, ?_, HBel.out⟩
      have := HO.out
      rw [List.take_length] at this
      exact this
end Go.Proofs.YtepjpdhmjchakaaGreatDoor

/- The document's bits, read: Read, Left, Next, NextVarint, NextSigned. -/
namespace Go.Proofs.YtepjpdhmjchakaaGreatDoor
open Go.RowKit
set_option linter.unusedVariables false

/-- The document's reader at block B: the bits L, at_ of them read. -/
structure Xd (w : World) (B : Nat) (v : Value) (at_ : Nat) (L : List Bool) (lo hi : Nat) : Prop where
  cells : w.heap[B]? = some (.cells #[v, .int .i64 (at_ : Int)] 141 (0, 0))
  data : Sl lo hi fb w v L
  apart : B < lo ∨ hi ≤ B
  le : at_ ≤ L.length
  len : L.length < 1099511627776
section
variable {w w' : World} {B at_ lo hi : Nat} {v : Value} {L : List Bool}
theorem Xd.drewN (h : Xd w B v at_ L lo hi) (n : Nat) : Xd (w.drewN n) B v at_ L lo hi := ⟨h.cells, h.data.same (fun _ _ _ => rfl), h.apart, h.le, h.len⟩
theorem Xd.below {C : Nat} (h : Xd w B v at_ L lo hi) (hb : Below C w w') (hB : B < C) (hh : hi ≤ C) : Xd w' B v at_ L lo hi :=
  ⟨(hb.block B hB).trans h.cells, h.data.below hb hh, h.apart, h.le, h.len⟩
theorem Xd.at (h : Xd w B v at_ L lo hi) {a : Nat} (ha : a ≤ L.length) (x : Int) (hx : x = (a : Int)) : Xd (w.setCell ⟨B, 1, none⟩ (.int .i64 x)) B v a L lo hi := by
  subst hx
  refine ⟨by rw [heap_setCell_same _ _ _ _ _ _ h.cells]; rfl, h.data.same (fun k h1 h2 => heap_setCell_other _ _ _ _ ?_), h.apart, ha, h.len⟩
  intro e
  have := h.apart
  simp at e
  omega
end
theorem xval_lt {L : List Bool} {n : Nat} (h : L.length ≤ n) (hn : n ≤ 64) : Bt.val L < 18446744073709551616 :=
  Nat.lt_of_lt_of_le (Bt.val_lt L) (Nat.pow_le_pow_right (by decide) (by omega : L.length ≤ 64))
theorem xun_fits {x : Nat} (h : x < 18446744073709551616) : -9223372036854775808 ≤ un x ∧ un x ≤ 9223372036854775807 := by
  unfold un
  split <;> omega
theorem xheap_lt {w : World} {B : Nat} {o : Obj} (h : w.heap[B]? = some o) : B < w.heap.size := (Array.getElem?_eq_some_iff.1 h).1
theorem Gro.drewN (p : Nat) (r : Option Nat) (w : World) (n : Nat) : Gro p r w (w.drewN n) := ⟨rfl, rfl, rfl, Nat.le_refl _, fun _ _ _ _ => rfl⟩
theorem Gro.set (p j : Nat) (r : Option Nat) (w : World) (x : Value) : Gro p r w (w.setCell ⟨p, j, none⟩ x) := ⟨rfl, rfl, rfl, by simp, fun k _ h _ => heap_setCell_other _ _ _ _ h⟩
theorem unpack_snoc (l : List UInt8) (x : UInt8) : Bt.unpack (l ++ [x]) = Bt.unpack l ++ Bt.nb x.toNat 8 := by
  apply List.ext_getElem?
  intro j
  have h1 := Bt.unpack_len l
  by_cases hj : j < 8 * l.length
  · rw [Bt.unpack_get _ _ (by simp; omega), List.getElem?_append_left (by rw [h1]; exact hj), Bt.unpack_get _ _ hj]
    unfold Bt.mbit
    have : j / 8 < l.length := by omega
    simp [List.getD, List.getElem?_append_left this]
  · by_cases hj2 : j < 8 * l.length + 8
    · obtain ⟨t, rfl⟩ : ∃ t, j = 8 * l.length + t := ⟨j - 8 * l.length, by omega⟩
      rw [Bt.unpack_get _ _ (by simp; omega), List.getElem?_append_right (by omega), h1, Nat.add_sub_cancel_left]
      unfold Bt.mbit Bt.nb
      have e : (8 * l.length + t) / 8 = l.length := by omega
      have e2 : (8 * l.length + t) % 8 = t := by omega
      have e3 : t < 8 := by omega
      rw [e, e2]
      simp [List.getD, e3]
      rfl
    · rw [List.getElem?_eq_none (by rw [Bt.unpack_len]; simp; omega), List.getElem?_eq_none (by simp [h1, Bt.nb_len]; omega)]

set_option maxRecDepth 100000 in
theorem xread_any (lo hi : Nat) (w : World) (v : Value) (l : List UInt8) (hv : Sl lo hi f8 w v l) (hhi : hi ≤ w.heap.size) (hl : l.length ≤ 1000000) :
    Calls Tryz.prog 80 #[v] w fun e w' => ∃ v', e = .returned (.pointer (some ⟨w.heap.size, 0, none⟩)) ∧ Xd w' w.heap.size v' 0 (Bt.unpack l) (w.heap.size + 1) w'.heap.size ∧ Below w.heap.size w w' := by
  obtain ⟨ao, cap, rfl, hs⟩ := hv
  have HS := Lib.hid hs
  clear hs
  go_enter Tryz.func80, Tryz.ntmps80
  go_wp2
  go_loopw [4] (fun i wr => ∃ (k : Nat) (r : Option Nat), k ≤ l.length ∧ i = .int .i64 k ∧ Xr wr w.heap.size r (Bt.unpack (l.take k)) ∧ (∀ q, r = some q → w.heap.size + 1 ≤ q) ∧ Below w.heap.size w wr) (fun i _ => l.length - (intOf i).toNat)
  case atStart => exact ⟨0, none, Nat.zero_le _, rfl, by simpa [Bt.unpack] using new_xr w, (fun q hq => by cases hq), (Below.refl _ _).alloc (Nat.le_refl _) _⟩
  case round =>
    obtain ⟨k, r, hk, rfl, hx, hr, hbel⟩ := hrel
    have HX := Lib.hid hx
    have HR := Lib.hid hr
    have HB := Lib.hid hbel
    have hsz := hbel.size
    have hlt0 : w.heap.size < wr.heap.size := by obtain ⟨⟨_, hB, _⟩, _⟩ := hx; exact xheap_lt hB
    have hul := Bt.unpack_len (l.take k)
    clear hx hr hbel
    by_cases hlt : k < l.length
    · obtain ⟨b, off, rfl, _, hb, hcell⟩ := (HS.out.below HB.out hhi).cells (by intro e; subst e; simp at hlt)
      have c0 := hcell k hlt
      have ht := unpack_snoc (l.take k) l[k]
      rw [← List.take_succ_eq_append_getElem hlt] at ht
      obtain ⟨y, hy, hyl⟩ : ∃ y : Nat, l[k].toNat = y ∧ y < 256 := ⟨_, rfl, l[k].toNat_lt⟩
      unfold f8 W8 at c0
      rw [hy] at c0 ht
      have HT := Lib.hid ht
      have i1 : (0 : Int) ≤ (k : Int) ∧ (k : Int) < (l.length : Int) := by omega
      have hlen : (Bt.unpack (l.take k)).length + 8 < 1099511627776 := by rw [hul, List.length_take]; omega
      clear hcell hul ht hy
      generalize Bt.unpack (l.take k) = L at *
      go_wp2_with (go_at_call 75; refine (xbits_any wr w.heap.size r L y 8 HX.out hlen (by omega) (by omega)).mono ?_; rintro e w1 ⟨rfl, r1, hx1, hg1, hn1⟩)
      go_roundw
      case rel =>
        refine ⟨k + 1, r1, by omega, by push_cast; rfl, by rw [HT.out]; exact hx1, fun q hq => ?_, HB.out.trans (hg1.below hsz (Nat.le_refl _) (fun q hq => by have := HR.out q hq; omega))⟩
        rcases hn1 q hq with h1 | h1
        · exact HR.out q h1
        · omega
      case measure => simp [intOf]; omega
    · obtain rfl : k = l.length := by omega
      rw [List.take_length] at HX hul
      have hx := HX.out
      obtain ⟨⟨v', hB, hown, hvr⟩, hne⟩ := hx
      have hsl : Sl (w.heap.size + 1) wr.heap.size fb wr v' (Bt.unpack l) := by
        refine Sl.owns (base := w.heap.size + 1) (e := 5) ?_ (by rw [hul]; omega)
        obtain ⟨h1, h2 | ⟨g, cp, cur, h3, h4, h5⟩⟩ := hown
        · exact ⟨h1, .inl h2⟩
        · refine ⟨h1, .inr ⟨g, cp, cur, h3, HR.out g ?_, h5⟩⟩
          rw [← hvr, h3]
          rfl
      have HXD := Lib.hid (show Xd wr w.heap.size v' 0 (Bt.unpack l) (w.heap.size + 1) wr.heap.size from ⟨hB, hsl, .inl (Nat.lt_succ_self _), Nat.zero_le _, by rw [hul]; omega⟩)
      clear hB hown hvr hsl HX
      go_wp2
      go_ret
      exact ⟨v', rfl, HXD.out, HB.out⟩

theorem xleft_any (lo hi : Nat) (w : World) (B at_ : Nat) (v : Value) (L : List Bool) (h : Xd w B v at_ L lo hi) :
    Calls Tryz.prog 101 #[.pointer (some ⟨B, 0, none⟩)] w fun e w' => e = .returned (.int .i64 ((L.length : Int) - (at_ : Int))) ∧ ∃ n, w' = w.drewN n := by
  obtain ⟨hB, ⟨ao, cap, rfl, hs⟩, hap, hle, hlen⟩ := h
  obtain ⟨c0, c1, _⟩ := two_cells hB
  have hl := hs.len
  clear hB hs hap
  go_enter Tryz.func101, Tryz.ntmps101
  go_wp2
  go_quiet (fail)
  go_wp2
  go_ret
  exact ⟨rfl, _, rfl⟩

set_option maxRecDepth 100000 in
theorem xnext_ok (lo hi : Nat) (w : World) (B at_ n : Nat) (v : Value) (L : List Bool) (h : Xd w B v at_ L lo hi) (hn : n ≤ 64) (hle : at_ + n ≤ L.length) :
    Calls Tryz.prog 82 #[.pointer (some ⟨B, 0, none⟩), .int .i64 (n : Int)] w fun e w' => e = .returned (.tuple #[.int .u64 ((Bt.val ((L.drop at_).take n) : Nat) : Int), .int .u16 0]) ∧ Xd w' B v (at_ + n) L lo hi ∧ Gro B none w w' := by
  have HH := Lib.hid h
  have hlen := h.len
  clear h
  go_enter Tryz.func82, Tryz.ntmps82
  go_wp2_with (go_at_call 101; refine (xleft_any lo hi _ B at_ v L HH.out).mono ?_; rintro e w1 ⟨rfl, m, rfl⟩)
  go_loopw [6, 7] (fun x i wr => ∃ (k V m : Nat), k ≤ n ∧ i = .int .i64 k ∧ x = .int .u64 V ∧ V = Bt.val ((L.drop at_).take k) ∧ wr = w.drewN m) (fun _ i _ => n - (intOf i).toNat)
  case atStart => exact ⟨0, 0, m, by omega, rfl, rfl, by simp [Bt.val], rfl⟩
  case round =>
    obtain ⟨k, V, m2, hk, rfl, rfl, hV, rfl⟩ := hrel
    have HV := Lib.hid hV
    obtain ⟨hB, ⟨ao, cap, rfl, hs⟩, hap, hle3, _⟩ := HH.out
    obtain ⟨c0, c1, cz⟩ := two_cells hB
    clear hV
    by_cases hlt : k < n
    · obtain ⟨b, off, rfl, hlo, hbh, hcell⟩ := hs.cells (by intro e; subst e; simp at hle; omega)
      have hc := hcell (at_ + k) (by omega)
      rw [fb_nat] at hc
      have hVb : V < 9223372036854775808 := by
        have h1 := Bt.val_lt ((L.drop at_).take k)
        have h2 : ((L.drop at_).take k).length ≤ k := List.length_take_le _ _
        have h3 : 2 ^ ((L.drop at_).take k).length ≤ 2 ^ 63 := Nat.pow_le_pow_right (by omega) (by omega)
        rw [HV.out]; omega
      have hbit : (L.drop at_).take (k + 1) = (L.drop at_).take k ++ [L[at_ + k]] := by
        rw [List.take_succ_eq_append_getElem (by rw [List.length_drop]; omega)]
        simp
      have HBIT := Lib.hid hbit
      have hbt : L[at_ + k].toNat < 2 := by cases L[at_ + k] <;> decide
      have i1 : (0 : Int) ≤ (at_ : Int) + (k : Int) ∧ (at_ : Int) + (k : Int) < (L.length : Int) := by omega
      clear hcell hs hbit hB
      generalize L[at_ + k] = bb at *
      generalize hbn : bb.toNat = bn at *
      have HBN := Lib.hid hbn
      clear hbn
      go_wp2
      go_quiet (fail)
      go_wp2
      go_roundw
      case rel =>
        refine ⟨k + 1, 2 * V + bn, _, by omega, by go_num, ?_, ?_, rfl⟩
        · go_num
        · rw [HBIT.out, Bt.val_snoc, ← HV.out, HBN.out]
      case measure => simp [intOf]; omega
    · obtain rfl : k = n := by omega
      obtain rfl := HV.out
      have hset := (HH.out.drewN m2).at hle _ (show ((at_ : Int) + (k : Int)) = ((at_ + k : Nat) : Int) by push_cast; rfl)
      have HS := Lib.hid hset
      clear HV hB hs hset
      go_wp2
      go_ret2
      exact ⟨rfl, HS.out, (Gro.drewN B none w m2).trans (Gro.set B 1 none _ _) (Anew.refl _ _)⟩
theorem xnext_short (lo hi : Nat) (w : World) (B at_ n : Nat) (v : Value) (L : List Bool) (h : Xd w B v at_ L lo hi) (hn : n ≤ 64) (hle : L.length < at_ + n) :
    Calls Tryz.prog 82 #[.pointer (some ⟨B, 0, none⟩), .int .i64 (n : Int)] w fun e w' => e = .returned (.tuple #[.int .u64 0, .int .u16 20]) ∧ ∃ m, w' = w.drewN m := by
  have HH := Lib.hid h
  have hlen := h.len
  have hle0 := h.le
  clear h
  go_enter Tryz.func82, Tryz.ntmps82
  go_wp2_with (go_at_call 101; refine (xleft_any lo hi _ B at_ v L HH.out).mono ?_; rintro e w1 ⟨rfl, m, rfl⟩)
  go_ret2
  exact ⟨rfl, m, rfl⟩
/-- Next, of good and bad. -/
theorem xnext_c {lo hi : Nat} {w : World} {B at_ : Nat} {v : Value} {L : List Bool} (h : Xd w B v at_ L lo hi) (n : Nat) (hn : n ≤ 64) (z : Int) (hz : z = (n : Int)) :
    Calls Tryz.prog 82 #[.pointer (some ⟨B, 0, none⟩), .int .i64 z] w fun e w' => ∃ (x a er : Nat), x < 18446744073709551616 ∧ e = .returned (.tuple #[.int .u64 (x : Int), .int .u16 (er : Int)]) ∧ Xd w' B v a L lo hi ∧ Gro B none w w' ∧
      ((er = 0 ∧ Gz.rdk L at_ n = some (x, a)) ∨ (er = 20 ∧ Gz.rdk L at_ n = none ∧ x = 0 ∧ a = at_)) := by
  subst hz
  by_cases hle : at_ + n ≤ L.length
  · refine (xnext_ok lo hi w B at_ n v L h hn hle).mono ?_
    rintro e w' ⟨rfl, h1, h2⟩
    exact ⟨_, at_ + n, 0, xval_lt (List.length_take_le _ _) hn, rfl, h1, h2, .inl ⟨rfl, by unfold Gz.rdk; rw [if_neg (by omega)]⟩⟩
  · refine (xnext_short lo hi w B at_ n v L h hn (by omega)).mono ?_
    rintro e w' ⟨rfl, m, rfl⟩
    exact ⟨0, at_, 20, by decide, rfl, h.drewN m, Gro.drewN _ _ _ _, .inr ⟨rfl, by unfold Gz.rdk; rw [if_pos (by omega)], rfl, rfl⟩⟩
end Go.Proofs.YtepjpdhmjchakaaGreatDoor

/- The document's bits, read: NextVarint, NextSigned. -/
namespace Go.Proofs.YtepjpdhmjchakaaGreatDoor
open Go.RowKit
set_option linter.unusedVariables false

/-- What NextVarint says. -/
def XvPost (w : World) (B at_ lo hi : Nat) (v : Value) (L : List Bool) (e : Ending) (w' : World) : Prop :=
  ∃ (x er a : Nat), x < 18446744073709551616 ∧ e = .returned (.tuple #[.int .u64 (x : Int), .int .u16 (er : Int)]) ∧ Xd w' B v a L lo hi ∧ Gro B none w w' ∧
      ((er = 0 ∧ Bt.rv L at_ = .inr (x, a)) ∨ (er ≠ 0 ∧ Bt.rv L at_ = .inl er ∧ x = 0 ∧ a = at_))

set_option maxHeartbeats 2000000 in
set_option maxRecDepth 100000 in
theorem xnextvarint_c {lo hi : Nat} {w : World} {B at_ : Nat} {v : Value} {L : List Bool} (h : Xd w B v at_ L lo hi) :
    Calls Tryz.prog 83 #[.pointer (some ⟨B, 0, none⟩)] w fun e w' => XvPost w B at_ lo hi v L e w' := by
  have HH := Lib.hid h
  obtain ⟨c0, c1, cz⟩ := two_cells h.cells
  clear h
  go_enter Tryz.func83, Tryz.ntmps83
  go_wp2
  go_loopw [5, 6] (fun x i wr => ∃ (k acc a' : Nat), i = .int .i64 k ∧ x = .int .u64 acc ∧ k ≤ 9 ∧ acc < 128 ^ k ∧ Xd wr B v a' L lo hi ∧ Gro B none w wr ∧ Bt.rvg L (10 - k) k a' acc = Bt.rv L at_) (fun _ i _ => 10 - (intOf i).toNat)
  case atStart => exact ⟨0, 0, at_, rfl, rfl, by omega, by omega, HH.out, Gro.refl _ _ _, rfl⟩
  case round =>
    obtain ⟨k, acc, a', rfl, rfl, hk, hacc, hx, hgr, hrv⟩ := hrel
    have HRV := Lib.hid hrv
    have HX := Lib.hid hx
    have HG := Lib.hid hgr
    have HA := Lib.hid hacc
    clear hrv hx hgr hacc c0 c1 cz
    have ek : 10 - k = (9 - k) + 1 := by omega
    have EK := Lib.hid ek
    clear ek
    go_wp2_with fail
    refine Calls.mono (by exact xnext_c HX.out 8 (by decide) _ rfl) ?_
    rintro e w1 ⟨g, a1, er, hgl, rfl, hx1, hg1, hcase⟩
    obtain ⟨d0, d1, dz⟩ := two_cells hx1.cells
    have HX1 := Lib.hid (hx1.at HH.out.le _ rfl)
    have HX2 := Lib.hid hx1
    have HG1 := Lib.hid (HG.out.trans hg1 (Anew.refl _ _))
    have HG2 := Lib.hid ((HG.out.trans hg1 (Anew.refl _ _)).trans (Gro.set B 1 none w1 (.int .i64 (at_ : Int))) (Anew.refl _ _))
    clear hx1 hg1
    rcases hcase with ⟨rfl, hr⟩ | ⟨rfl, hr, rfl, rfl⟩
    · unfold Gz.rdk at hr
      by_cases hU : L.length < a' + 8
      · rw [if_pos hU] at hr; cases hr
      rw [if_neg hU] at hr
      injection hr with hr
      injection hr with hg hae
      subst hae
      have hgl : g < 256 := by
        have h1 := Bt.val_lt ((L.drop a').take 8)
        have h2 : ((L.drop a').take 8).length ≤ 8 := List.length_take_le _ _
        have h3 : 2 ^ ((L.drop a').take 8).length ≤ 2 ^ 8 := Nat.pow_le_pow_right (by omega) h2
        omega
      have hstep : Bt.rv L at_ = if k = 9 ∧ 1 < g then .inl 21 else if g < 128 then (if 0 < k ∧ g = 0 then .inl 21 else .inr (acc + g % 128 * 128 ^ k, a' + 8))
          else Bt.rvg L (9 - k) (k + 1) (a' + 8) (acc + g % 128 * 128 ^ k) := by
        rw [← HRV.out, EK.out, Bt.rvg, if_neg hU, hg]
      have HST := Lib.hid hstep
      clear hstep hg hU
      by_cases h9 : k = 9 ∧ 1 < g
      · rw [if_pos h9] at HST
        obtain ⟨rfl, hg1⟩ := h9
        go_wp2
        go_ret2
        exact ⟨0, 21, at_, by decide, rfl, HX1.out, HG2.out, .inr ⟨by decide, HST.out, rfl, rfl⟩⟩
      · rw [if_neg h9] at HST
        have hk9 : ((((k : Int) == 9) = true ∧ k = 9) ∧ g ≤ 1) ∨ (((k : Int) == 9) = false ∧ k < 9) := by
          by_cases e : k = 9
          · left; exact ⟨⟨by simp [e], e⟩, by omega⟩
          · right; exact ⟨by simp; omega, by omega⟩
        obtain ⟨e3, e4⟩ := or_septet acc g k HA.out (by omega)
        have hx64 : k ≤ 9 → (k = 9 → g ≤ 1) → acc + g % 128 * 128 ^ k < 18446744073709551616 := by
          intro h1 h2
          by_cases e : k = 9
          · subst e
            have := HA.out
            have h3 := h2 rfl
            have : g % 128 ≤ 1 := by omega
            have h4 : g % 128 * 128 ^ 9 ≤ 1 * 128 ^ 9 := Nat.mul_le_mul_right _ this
            omega
          · have h5 : 128 ^ (k + 1) ≤ 128 ^ 9 := Nat.pow_le_pow_right (by decide) (by omega)
            omega
        have hx64 := hx64 hk (by omega)
        generalize acc + g % 128 * 128 ^ k = acc2 at *
        have E4 := Lib.hid e4
        clear h9 e4
        have hgc : (g < 128 ∧ (0 < k ∧ g = 0)) ∨ (g < 128 ∧ ¬ (0 < k ∧ g = 0)) ∨ (¬ g < 128 ∧ k < 9) := by omega
        rcases hgc with ⟨hg2, hg3⟩ | ⟨hg2, hg3⟩ | ⟨hg2, hk8⟩
        · rw [if_pos hg2, if_pos hg3] at HST
          obtain ⟨hg4, hg5⟩ := hg3
          have hg6 : ((g : Int) == 0) = true := by simp [hg5]
          clear hg5
          rcases hk9 with ⟨⟨hk9, hkk⟩, hg1⟩ | ⟨hk9, hkk⟩
          all_goals
            clear hkk
            go_wp2
            go_ret2
            exact ⟨0, 21, at_, by decide, rfl, HX1.out, HG2.out, .inr ⟨by decide, HST.out, rfl, rfl⟩⟩
        · rw [if_pos hg2, if_neg hg3] at HST
          have hg4 : (((k : Int) == 9) = true ∧ 0 < k ∧ g ≠ 0 ∧ g ≤ 1) ∨ (((k : Int) == 9) = false ∧ 0 < k ∧ g ≠ 0) ∨ (((k : Int) == 9) = false ∧ k = 0) := by
            rcases hk9 with ⟨⟨h1, h2⟩, h3⟩ | ⟨h1, h2⟩
            · exact Or.inl ⟨h1, by omega, by omega, by omega⟩
            · by_cases h0 : k = 0
              · exact Or.inr (Or.inr ⟨h1, h0⟩)
              · exact Or.inr (Or.inl ⟨h1, by omega, by omega⟩)
          clear hk9
          have hg7 : (((k : Int) == 9) = true ∧ 0 < k ∧ g ≠ 0 ∧ g ≤ 1) ∨ (((k : Int) == 9) = false ∧ 0 < k ∧ g ≠ 0) ∨ (((k : Int) == 9) = false ∧ k = 0 ∧ bits .or .u64 (acc : Int) ((g : Int) % 128) = (acc2 : Int)) := by
            rcases hg4 with h | h | ⟨h1, h2⟩
            · exact Or.inl h
            · exact Or.inr (Or.inl h)
            · refine Or.inr (Or.inr ⟨h1, h2, ?_⟩)
              subst h2
              rw [← e3, show ((g : Int) % 128 * 2 ^ (7 * 0)) = ((g % 128 : Nat) : Int) from by simp, IntWalk.u64_in _ (by omega)]
              rfl
          clear hg4
          rcases hg7 with ⟨hk9, hg4, hg5, hg6⟩ | ⟨hk9, hg4, hg5⟩ | ⟨hk9, hg4, hg5⟩
          all_goals
            go_wp2
            go_ret2
            exact ⟨acc2, 0, a' + 8, hx64, rfl, HX2.out, HG1.out, .inl ⟨rfl, HST.out⟩⟩
        · rw [if_neg hg2] at HST
          rcases hk9 with ⟨⟨hk9, hkk⟩, hg1⟩ | ⟨hk9, hkk⟩
          · exfalso; omega
          go_wp2
          go_roundw
          case rel =>
            refine ⟨k + 1, acc2, a' + 8, by push_cast; rfl, rfl, by omega, E4.out, HX2.out, HG1.out, ?_⟩
            rw [show 10 - (k + 1) = 9 - k from by omega]; exact HST.out.symm
          case measure => simp [intOf]; omega
    · have hres : Bt.rv L at_ = .inl 20 := by
        unfold Gz.rdk at hr
        by_cases hU : L.length < a1 + 8
        · rw [← HRV.out, EK.out, Bt.rvg, if_pos hU]
        · rw [if_neg hU] at hr; cases hr
      have HRES := Lib.hid hres
      clear hres hr
      go_wp2
      go_ret2
      exact ⟨0, 20, at_, by decide, rfl, HX1.out, HG2.out, .inr ⟨by decide, HRES.out, rfl, rfl⟩⟩

set_option maxRecDepth 100000 in
theorem xnextsigned_c {lo hi : Nat} {w : World} {B at_ : Nat} {v : Value} {L : List Bool} (h : Xd w B v at_ L lo hi) :
    Calls Tryz.prog 81 #[.pointer (some ⟨B, 0, none⟩)] w fun e w' => ∃ (t : Int) (er a : Nat), e = .returned (.tuple #[.int .i64 t, .int .u16 (er : Int)]) ∧ (-9223372036854775808 ≤ t ∧ t ≤ 9223372036854775807) ∧ Xd w' B v a L lo hi ∧ Gro B none w w' ∧
      ((er = 0 ∧ ∃ x, Bt.rv L at_ = .inr (x, a) ∧ t = un x) ∨ (er ≠ 0 ∧ Bt.rv L at_ = .inl er)) := by
  have HH := Lib.hid h
  clear h
  go_enter Tryz.func81, Tryz.ntmps81
  go_wp2_with fail
  refine Calls.mono (by exact xnextvarint_c HH.out) ?_
  rintro e w1 ⟨x, er, a, hx, rfl, hx1, hg1, hcase⟩
  have HX := Lib.hid hx1
  have HG := Lib.hid hg1
  have HC := Lib.hid (show (er = 0 ∧ ∃ y, Bt.rv L at_ = .inr (y, a) ∧ un x = un y) ∨ (er ≠ 0 ∧ Bt.rv L at_ = .inl er) by
    rcases hcase with ⟨h1, h2⟩ | ⟨h1, h2, h3, h4⟩
    · exact .inl ⟨h1, x, h2, rfl⟩
    · exact .inr ⟨h1, h2⟩)
  have hf := xun_fits hx
  clear hx1 hg1 hcase
  rcases (by omega : x % 2 = 0 ∨ x % 2 = 1) with e2 | e2
  · have e5 : un x = ((x / 2 : Nat) : Int) := by unfold un; rw [if_pos e2]
    have g1 : ((x : Int) % 2 == 1) = false := by simp; omega
    have HE := Lib.hid e5
    have HF := Lib.hid hf
    clear e5 e2 hf
    go_wp2
    go_ret2
    exact ⟨un x, er, a, by rw [HE.out]; rfl, HF.out, HX.out, HG.out, HC.out⟩
  · have e5 : un x = -((x / 2 : Nat) : Int) - 1 := by unfold un; rw [if_neg (by omega)]
    have g1 : ((x : Int) % 2 == 1) = true := by simp; omega
    have HE := Lib.hid e5
    have HF := Lib.hid hf
    clear e5 e2 hf
    go_wp2
    go_ret2
    exact ⟨un x, er, a, by rw [HE.out]; rfl, HF.out, HX.out, HG.out, HC.out⟩
end Go.Proofs.YtepjpdhmjchakaaGreatDoor
